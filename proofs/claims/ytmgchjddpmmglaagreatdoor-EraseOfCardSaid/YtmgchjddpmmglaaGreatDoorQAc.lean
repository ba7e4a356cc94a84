/-
  Layer 6 (split) in plain words: a line's words, by bytes and by runes; no program in sight. No conditions.
  DERIVED: THE SHELF's CONTRACTS AT THIS DUMP, IN PLAIN WORDS (tools/lay-plain.mjs out of 'TrydShelfS4.lean', which tools/lay-shelf.mjs wrote): THE SAME DECLARATIONS UNDER THE SAME NAMES: 'import', 'namespace', 'open', 'def', 'theorem' AND NOTHING ELSE: no command of the shelf's: FOR A HAND-IN. Each laying: the table of numbers ('.._ren') and one theorem, a field a fact of the dump's own or the kernel's comparison; each contract: ONE APPLICATION.
  The walks of layer 6 (split): a line's words, in the program. No conditions but that internal/bytealg.MaxLen holds a number.
  Layer 6 (split): words joined and parted again are the same words, in plain words; and the statements SplitJoins and SplitAgain, walked. No conditions but that unicode/utf8's two tables are as their initialisers lay them and that internal/bytealg.MaxLen holds a number.
  Type assertions on a cell's value, as closed facts of the program's own tables. No conditions.
  Which values may be, in plain words. No conditions.
  Plain law of layer 3 (digit): a number's decimal text, the number of a text; they undo one another. No program in sight.
  The walks of layer 3 (digit): what each function of package digit, and of its reference, returns; memory that was there stands as it was. No conditions.
-/
import Derived.Test.YtmgchjddpmmglaaGreatDoorQAb
import Derived.Shelf.Strings.Cut
import Derived.Shelf.Strings.Search3
import Derived.Shelf.Strings.OnBuilder
import Derived.WalkSmall
import Derived.Deep.AppendLies
import Derived.IntWalk
import Derived.Lib.Join
namespace Go.Proofs.YtmgchjddpmmglaaGreatDoor
open Go.Lib
theorem decN_ext (n m b0 b1 b2 b3 c1 c2 c3 : Nat) (hn : 1 ≤ n) (hm : n ≤ m) (h1 : 1 < n → c1 = b1) (h2 : 2 < n → c2 = b2) (h3 : 3 < n → c3 = b3)
  (l1 : n = 1 → c1 < 128) (l2 : n = 2 → c2 < 128) (l3 : n = 3 → c3 < 128) : decodeN m b0 c1 c2 c3 = decodeN n b0 b1 b2 b3 := by
 rcases (show n = 1 ∨ n = 2 ∨ n = 3 ∨ 4 ≤ n by omega) with rfl | rfl | rfl | h4
 ·have hc : ¬ c1 / 64 = 2 := by have := l1 rfl; omega
  unfold decodeN
  simp only [hc, Nat.lt_irrefl, and_false, false_and, if_false]
 ·have e1 := h1 (by omega)
  have hc : ¬ c2 / 64 = 2 := by have := l2 rfl; omega
  have hm1 : 1 < m := by omega
  subst e1
  unfold decodeN
  simp only [hc, hm1, show (1 : Nat) < 2 from by decide, Nat.lt_irrefl, and_false, false_and, true_and, if_false]
 ·have e1 := h1 (by omega)
  have e2 := h2 (by omega)
  have hc : ¬ c3 / 64 = 2 := by have := l3 rfl; omega
  have hm1 : 1 < m := by omega
  have hm2 : 2 < m := by omega
  subst e1 e2
  unfold decodeN
  simp only [hc, hm1, hm2, show (1 : Nat) < 3 from by decide, show (2 : Nat) < 3 from by decide, Nat.lt_irrefl, and_false, false_and, true_and, if_false]
 ·have e1 := h1 (by omega)
  have e2 := h2 (by omega)
  have e3 := h3 (by omega)
  subst e1 e2 e3
  unfold decodeN
  simp only [show 1 < m by omega, show 2 < m by omega, show 3 < m by omega, show 1 < n by omega, show 2 < n by omega, show 3 < n by omega]
theorem dec_cut (x y : List UInt8) (c : UInt8) (hx : x ≠ []) (hc : c.toNat < 128) : decodeL (x ++ c :: y) = decodeL x := by
 have hl : 0 < x.length := List.length_pos_iff.2 hx
 have hat : (x ++ c :: y).getD x.length 0 = c := by simp [List.getD]
 rw [decodeL_N, decodeL_N, getD_appL x _ 0 hl]
 refine decN_ext x.length _ _ _ _ _ _ _ _ hl (by rw [List.length_append]; omega) ?_ ?_ ?_ ?_ ?_ ?_
 ·intro h; rw [getD_appL x _ 1 h]
 ·intro h; rw [getD_appL x _ 2 h]
 ·intro h; rw [getD_appL x _ 3 h]
 ·intro h; rw [h] at hat; rw [hat]; exact hc
 ·intro h; rw [h] at hat; rw [hat]; exact hc
 ·intro h; rw [h] at hat; rw [hat]; exact hc
theorem valid_cut : ∀ (n : Nat) (x y : List UInt8) (c : UInt8), x.length ≤ n → c.toNat < 128 → validD (x ++ c :: y) = (validD x && validD y)
 | 0, x, y, c, hn, hc => by
  have : x = [] := List.eq_nil_of_length_eq_zero (by omega)
  subst this
  rw [List.nil_append, validD_cons c y hc]
  rfl
 | n + 1, x, y, c, hn, hc => by
  by_cases hx : x = []
  ·subst hx
   rw [List.nil_append, validD_cons c y hc]
   rfl
  ·have hw := decodeL_le' x hx
   rw [validD_step _ (by simp), validD_step x hx, dec_cut x y c hx hc]
   split
   ·rfl
   ·rw [List.drop_append_of_le_length hw.2, valid_cut n (x.drop (decodeL x).2) y c (by rw [List.length_drop]; omega) hc]
theorem dec_cont (l : List UInt8) (j : Nat) (hj : 1 ≤ j) (h : j < (decodeL l).2) : 128 ≤ (l.getD j 0).toNat := by
 rw [decodeL_N] at h
 generalize (l.getD 0 0).toNat = b0 at h
 generalize h1 : (l.getD 1 0).toNat = b1 at h
 generalize h2 : (l.getD 2 0).toNat = b2 at h
 generalize h3 : (l.getD 3 0).toNat = b3 at h
 have hj3 : j = 1 ∨ j = 2 ∨ j = 3 := by
  have : (decodeN l.length b0 b1 b2 b3).2 ≤ 4 := by
   unfold decodeN
   repeat' split
   all_goals simp
  omega
 unfold decodeN at h
 split at h
 ·simp only at h; omega
 ·split at h
  ·rename_i hc
   split at h
   ·simp only at h
    obtain rfl : j = 1 := by omega
    rw [h1]; omega
   ·simp only at h; omega
  ·split at h
   ·rename_i hc
    split at h
    ·simp only at h
     rcases (show j = 1 ∨ j = 2 by omega) with rfl | rfl
     ·rw [h1]; omega
     ·rw [h2]; omega
    ·simp only at h; omega
   ·split at h
    ·rename_i hc
     split at h
     ·simp only at h
      rcases hj3 with rfl | rfl | rfl
      ·rw [h1]; omega
      ·rw [h2]; omega
      ·rw [h3]; omega
     ·simp only at h; omega
    ·simp only at h; omega
def scanGo (l : List UInt8) : Nat → Nat → Option Nat → List (Nat × Nat)
 | 0, _, none => []
 | 0, i, some f => [(f, i)]
 | n + 1, i, fr => if blankB (l.getD i 0) then (match fr with | some f => (f, i) :: scanGo l n (i + 1) none | none => scanGo l n (i + 1) none) else scanGo l n (i + 1) (some (fr.getD i))
def pushed : Option Nat → Nat → List (Nat × Nat)
 | some f, i => [(f, i)]
 | none, _ => []
def scanL (l : List UInt8) : List (Nat × Nat) := scanGo l l.length 0 none
theorem scan_blank (l : List UInt8) (i : Nat) (fr : Option Nat) (hi : i < l.length) (hb : blankB l[i] = true) :
  scanGo l (l.length - i) i fr = pushed fr i ++ scanGo l (l.length - (i + 1)) (i + 1) none := by
 rw [show l.length - i = (l.length - (i + 1)) + 1 by omega]
 conv => lhs; unfold scanGo
 rw [getD_at l i hi, if_pos hb]
 cases fr <;> rfl
theorem scan_go (l : List UInt8) (i : Nat) (fr : Option Nat) (hi : i < l.length) (hb : blankB l[i] = false) :
  scanGo l (l.length - i) i fr = scanGo l (l.length - (i + 1)) (i + 1) (some (fr.getD i)) := by
 rw [show l.length - i = (l.length - (i + 1)) + 1 by omega]
 conv => lhs; unfold scanGo
 rw [getD_at l i hi, hb]
 rfl
theorem scan_end (l : List UInt8) (i : Nat) (fr : Option Nat) (hi : l.length ≤ i) : scanGo l (l.length - i) i fr = pushed fr i := by
 rw [show l.length - i = 0 by omega]
 cases fr <;> rfl
theorem scan_many (l : List UInt8) (f : Nat) : ∀ (k i : Nat), i + k ≤ l.length → (∀ j, j < k → blankB (l.getD (i + j) 0) = false) → scanGo l (l.length - i) i (some f) = scanGo l (l.length - (i + k)) (i + k) (some f)
 | 0, i, _, _ => rfl
 | k + 1, i, hk, hb => by
  have h0 := hb 0 (by omega)
  rw [Nat.add_zero, getD_at l i (by omega)] at h0
  rw [scan_go l i (some f) (by omega) h0]
  show scanGo l (l.length - (i + 1)) (i + 1) (some f) = _
  rw [scan_many l f k (i + 1) (by omega) (fun j hj => by have := hb (j + 1) (by omega); rwa [show i + (j + 1) = i + 1 + j by omega] at this), show i + 1 + k = i + (k + 1) by omega]
theorem scan_rune (l : List UInt8) (p : Nat) (fr : Option Nat) (hp : p < l.length) :
  (blankR (oneAt l p).1 = true → scanGo l (l.length - p) p fr = pushed fr p ++ scanGo l (l.length - (p + (oneAt l p).2)) (p + (oneAt l p).2) none) ∧
  (blankR (oneAt l p).1 = false → scanGo l (l.length - p) p fr = scanGo l (l.length - (p + (oneAt l p).2)) (p + (oneAt l p).2) (some (fr.getD p))) := by
 have e : l.drop p = l[p] :: l.drop (p + 1) := List.drop_eq_getElem_cons hp
 have eo : oneAt l p = decodeL (l.drop p) := rfl
 have hb := one_bounds l p hp
 obtain ⟨h1, h2⟩ := dec_blank l[p] (l.drop (p + 1))
 rw [← e, ← eo] at h1 h2
 constructor
 ·intro h
  rw [h1] at h
  rw [h2 h]
  exact scan_blank l p fr hp h
 ·intro h
  rw [h1] at h
  rw [scan_go l p fr hp h, scan_many l _ ((oneAt l p).2 - 1) (p + 1) (by omega) ?_, show p + 1 + ((oneAt l p).2 - 1) = p + (oneAt l p).2 by omega]
  intro j hj
  have hc := dec_cont (l.drop p) (j + 1) (by omega) (by rw [← eo]; omega)
  rw [getD_dropU, show p + (j + 1) = p + 1 + j by omega] at hc
  cases hz : blankB (l.getD (p + 1 + j) 0) with
  | true => have := blankB_low _ hz; omega
  | false => rfl
theorem col_le (l : List UInt8) (at' : Int) : ∀ (k p : Nat), l.length - p ≤ k → colN l p at' ≤ l.length - p
 | 0, p, hk => by
  rw [col_end l p at' (by omega)]
  exact Nat.zero_le _
 | k + 1, p, hk => by
  by_cases h : p < l.length
  ·have hb := one_bounds l p h
   have := col_le l at' k (p + (oneAt l p).2) (by omega)
   rw [col_step l p at' h]
   split <;> omega
  ·rw [col_end l p at' (by omega)]
   exact Nat.zero_le _
def RunesTo (l : List UInt8) (p n : Nat) : Prop := ∀ at' : Int, (p : Int) ≤ at' → colN l 0 at' = n + colN l p at'
theorem runesTo_start (l : List UInt8) : RunesTo l 0 0 := fun _ _ => by omega
theorem runesTo_step (l : List UInt8) (p n : Nat) (hp : p < l.length) (h : RunesTo l p n) : RunesTo l (p + (oneAt l p).2) (n + 1) := fun at' hat => by
 have hb := one_bounds l p hp
 have := h at' (by omega)
 rw [col_step l p at' hp, if_pos (by omega)] at this
 omega
theorem runesTo_col (l : List UInt8) (p n : Nat) (h : RunesTo l p n) : colN l 0 p = n := by
 have := h p (Int.le_refl _)
 rw [col_past l p p (Int.le_refl _)] at this
 omega
def wordAt (l : List UInt8) (r : Nat × Nat) : List UInt8 × Nat := (curL l r.1 r.2, colN l 0 r.1 + 1)
def wordsL (l : List UInt8) : List (List UInt8 × Nat) := (scanL l).map (wordAt l)
def aheadL (s : List UInt8) : List UInt8 := s.takeWhile (fun b => decide (b ≠ 35))
theorem ahead_app (s : List UInt8) : aheadL s = s ∨ ∃ y, s = aheadL s ++ 35 :: y := by
 unfold aheadL
 have h := List.takeWhile_append_dropWhile (p := fun b : UInt8 => decide (b ≠ 35)) (l := s)
 cases hd : s.dropWhile (fun b => decide (b ≠ 35)) with
 | nil => left; rw [hd, List.append_nil] at h; exact h
 | cons b y =>
  right
  have hb : b = 35 := by
   have := List.head?_dropWhile_not (fun b : UInt8 => decide (b ≠ 35)) s
   rw [hd] at this
   simpa using this
  rw [hd, hb] at h
  exact ⟨y, h.symm⟩
theorem oneAt_ahead (s : List UInt8) (p : Nat) (hp : p < (aheadL s).length) : oneAt (aheadL s) p = oneAt s p := by
 rcases ahead_app s with h | ⟨y, h⟩
 ·rw [h]
 ·have hne : (aheadL s).drop p ≠ [] := fun e => by
   have := congrArg List.length e
   rw [List.length_drop, List.length_nil] at this
   omega
  unfold oneAt
  conv => rhs; rw [h, List.drop_append_of_le_length (by omega)]
  exact (dec_cut _ y 35 hne (by decide)).symm
theorem col_ahead (s : List UInt8) (at' : Nat) (hat : at' ≤ (aheadL s).length) (hle : (aheadL s).length ≤ s.length) : ∀ (k p : Nat), (aheadL s).length - p ≤ k → p ≤ (aheadL s).length → colN (aheadL s) p at' = colN s p at'
 | 0, p, hk, hp => by
  rw [col_past _ p _ (by omega), col_past _ p _ (by omega)]
 | k + 1, p, hk, hp => by
  by_cases h : p < at'
  ·have hb := one_bounds (aheadL s) p (by omega)
   have e := oneAt_ahead s p (by omega)
   rw [col_step _ p _ (by omega), col_step s p _ (by omega), if_pos (by omega), if_pos (by omega), ← e, col_ahead s at' hat hle k _ (by omega) (by omega)]
  ·rw [col_past _ p _ (by omega), col_past _ p _ (by omega)]
theorem ahead_len (s : List UInt8) : (aheadL s).length ≤ s.length := by
 rcases ahead_app s with h | ⟨y, h⟩
 ·rw [h]; exact Nat.le_refl _
 ·conv => rhs; rw [h]
  rw [List.length_append]
  omega
end Go.Proofs.YtmgchjddpmmglaaGreatDoor

namespace Go.Proofs
open Go.Shelf
def Tryz.laysContains_ren : Go.Shelf.Ren := ⟨fun | 144 => 193 | 143 => 224 | 219 => 244 | 217 => 263 | 225 => 264 | 224 => 265 | 267 => 266 | 266 => 283 | 314 => 284 | n => n, fun | 9 => 9 | 4 => 4 | 3 => 3 | 5 => 5 | 46 => 244 | 146 => 292 | 51 => 276 | n => n, fun | 1 => 3 | n => n⟩
theorem Tryz.laysContains : Go.Proofs.Lays.n144 Tryz.prog Tryz.laysContains_ren := {
 mixed := by kernel_rfl
 f143 := Tryz.func224.trans (congrArg some (by kernel_rfl))
 f144 := Tryz.func193.trans (congrArg some (by kernel_rfl))
 f217 := Tryz.func263.trans (congrArg some (by kernel_rfl))
 f219 := Tryz.func244.trans (congrArg some (by kernel_rfl))
 f224 := Tryz.func265.trans (congrArg some (by kernel_rfl))
 f225 := Tryz.func264.trans (congrArg some (by kernel_rfl))
 f266 := Tryz.func283.trans (congrArg some (by kernel_rfl))
 f267 := Tryz.func266.trans (congrArg some (by kernel_rfl))
 f314 := Tryz.func284.trans (congrArg some (by kernel_rfl))
 t3 := Tryz.underlying3
 a3 := Tryz.isAgg3
 z3 := Tryz.sizeOf3
 v3 := Tryz.zeroValue3
 t4 := Tryz.underlying4
 a4 := Tryz.isAgg4
 z4 := Tryz.sizeOf4
 v4 := Tryz.zeroValue4
 t5 := Tryz.underlying5
 a5 := Tryz.isAgg5
 z5 := Tryz.sizeOf5
 v5 := Tryz.zeroValue5
 t9 := Tryz.underlying9
 a9 := Tryz.isAgg9
 z9 := Tryz.sizeOf9
 v9 := Tryz.zeroValue9
 t46 := Tryz.underlying244
 a46 := Tryz.isAgg244
 z46 := Tryz.sizeOf244
 v46 := Tryz.zeroValue244
 t51 := Tryz.underlying276
 a51 := Tryz.isAgg276
 z51 := Tryz.sizeOf276
 v51 := Tryz.zeroValue276
 t146 := Tryz.underlying292
 a146 := Tryz.isAgg292
 z146 := Tryz.sizeOf292
 v146 := Tryz.zeroValue292
 g1 := by kernel_rfl }
def Tryz.laysCut_ren : Go.Shelf.Ren := ⟨fun | 145 => 194 | 220 => 227 | 219 => 244 | 217 => 263 | 225 => 264 | 224 => 265 | 267 => 266 | 266 => 283 | 314 => 284 | n => n, fun | 9 => 9 | 4 => 4 | 59 => 216 | 3 => 3 | 5 => 5 | 46 => 244 | 146 => 292 | 51 => 276 | n => n, fun | 1 => 3 | n => n⟩
theorem Tryz.laysCut : Go.Proofs.Lays.n145 Tryz.prog Tryz.laysCut_ren := {
 mixed := by kernel_rfl
 f145 := Tryz.func194.trans (congrArg some (by kernel_rfl))
 f217 := Tryz.func263.trans (congrArg some (by kernel_rfl))
 f219 := Tryz.func244.trans (congrArg some (by kernel_rfl))
 f220 := Tryz.func227.trans (congrArg some (by kernel_rfl))
 f224 := Tryz.func265.trans (congrArg some (by kernel_rfl))
 f225 := Tryz.func264.trans (congrArg some (by kernel_rfl))
 f266 := Tryz.func283.trans (congrArg some (by kernel_rfl))
 f267 := Tryz.func266.trans (congrArg some (by kernel_rfl))
 f314 := Tryz.func284.trans (congrArg some (by kernel_rfl))
 t3 := Tryz.underlying3
 a3 := Tryz.isAgg3
 z3 := Tryz.sizeOf3
 v3 := Tryz.zeroValue3
 t4 := Tryz.underlying4
 a4 := Tryz.isAgg4
 z4 := Tryz.sizeOf4
 v4 := Tryz.zeroValue4
 t5 := Tryz.underlying5
 a5 := Tryz.isAgg5
 z5 := Tryz.sizeOf5
 v5 := Tryz.zeroValue5
 t9 := Tryz.underlying9
 a9 := Tryz.isAgg9
 z9 := Tryz.sizeOf9
 v9 := Tryz.zeroValue9
 t46 := Tryz.underlying244
 a46 := Tryz.isAgg244
 z46 := Tryz.sizeOf244
 v46 := Tryz.zeroValue244
 t51 := Tryz.underlying276
 a51 := Tryz.isAgg276
 z51 := Tryz.sizeOf276
 v51 := Tryz.zeroValue276
 t59 := Tryz.underlying216
 a59 := Tryz.isAgg216
 z59 := Tryz.sizeOf216
 v59 := Tryz.zeroValue216
 t146 := Tryz.underlying292
 a146 := Tryz.isAgg292
 z146 := Tryz.sizeOf292
 v146 := Tryz.zeroValue292
 g1 := by kernel_rfl }
def Tryz.laysJoin_ren : Go.Shelf.Ren := ⟨fun | 156 => 234 | 165 => 249 | 166 => 175 | 169 => 177 | 240 => 214 | 241 => 277 | 276 => 237 | 277 => 289 | n => n, fun | 31 => 22 | 9 => 9 | 3 => 3 | 4 => 4 | 0 => 0 | 20 => 20 | 72 => 195 | 76 => 199 | 70 => 192 | 37 => 193 | 75 => 198 | 127 => 228 | 164 => 249 | 5 => 5 | 80 => 202 | n => n, fun | n => n⟩
theorem Tryz.laysJoin : Go.Proofs.Lays.n156 Tryz.prog Tryz.laysJoin_ren := {
 mixed := by kernel_rfl
 f156 := Tryz.func234.trans (congrArg some (by kernel_rfl))
 f165 := Tryz.func249.trans (congrArg some (by kernel_rfl))
 f166 := Tryz.func175.trans (congrArg some (by kernel_rfl))
 f169 := Tryz.func177.trans (congrArg some (by kernel_rfl))
 f240 := Tryz.func214.trans (congrArg some (by kernel_rfl))
 f241 := Tryz.func277.trans (congrArg some (by kernel_rfl))
 f276 := Tryz.func237.trans (congrArg some (by kernel_rfl))
 f277 := Tryz.func289.trans (congrArg some (by kernel_rfl))
 t0 := Tryz.underlying0
 a0 := Tryz.isAgg0
 z0 := Tryz.sizeOf0
 v0 := Tryz.zeroValue0
 t3 := Tryz.underlying3
 a3 := Tryz.isAgg3
 z3 := Tryz.sizeOf3
 v3 := Tryz.zeroValue3
 t4 := Tryz.underlying4
 a4 := Tryz.isAgg4
 z4 := Tryz.sizeOf4
 v4 := Tryz.zeroValue4
 t9 := Tryz.underlying9
 a9 := Tryz.isAgg9
 z9 := Tryz.sizeOf9
 v9 := Tryz.zeroValue9
 t20 := Tryz.underlying20
 a20 := Tryz.isAgg20
 z20 := Tryz.sizeOf20
 v20 := Tryz.zeroValue20
 t31 := Tryz.underlying22
 a31 := Tryz.isAgg22
 z31 := Tryz.sizeOf22
 v31 := Tryz.zeroValue22
 t37 := Tryz.underlying193
 a37 := Tryz.isAgg193
 z37 := Tryz.sizeOf193
 v37 := Tryz.zeroValue193
 t70 := Tryz.underlying192
 a70 := Tryz.isAgg192
 z70 := Tryz.sizeOf192
 v70 := Tryz.zeroValue192
 t72 := Tryz.underlying195
 a72 := Tryz.isAgg195
 z72 := Tryz.sizeOf195
 v72 := Tryz.zeroValue195
 t75 := Tryz.underlying198
 a75 := Tryz.isAgg198
 z75 := Tryz.sizeOf198
 v75 := Tryz.zeroValue198
 t76 := Tryz.underlying199
 a76 := Tryz.isAgg199
 z76 := Tryz.sizeOf199
 v76 := Tryz.zeroValue199
 t127 := Tryz.underlying228
 a127 := Tryz.isAgg228
 z127 := Tryz.sizeOf228
 v127 := Tryz.zeroValue228
 t164 := Tryz.underlying249
 a164 := Tryz.isAgg249
 z164 := Tryz.sizeOf249
 v164 := Tryz.zeroValue249 }
theorem Tryz.extraJoin : Builder.Extra Tryz.prog Tryz.laysJoin_ren := {
 sizeBuilder := by kernel_rfl
 liesBuilder := by kernel_rfl
 t5 := Tryz.underlying5
 a5 := Tryz.isAgg5
 z5 := Tryz.sizeOf5
 v5 := Tryz.zeroValue5
 infoByte := by kernel_rfl
 cellsByte := by kernel_rfl
 sizeByte := by kernel_rfl
 neB5 := by decide }
end Go.Proofs

namespace Go.Proofs.YtmgchjddpmmglaaGreatDoor
open Go.RowKit Go.Lib
def wcells (W : List (List UInt8 × Nat)) : List Value := W.flatMap fun x => [.string (bs x.1), .int .i64 (x.2 : Int)]
theorem wcells_next (W : List (List UInt8 × Nat)) (x : List UInt8) (n : Nat) : wcells W ++ [.string (bs x), .int .i64 ((n : Int) + 1)] = wcells (W ++ [(x, n + 1)]) := by simp [wcells]
theorem wcells_at : ∀ (W : List (List UInt8 × Nat)) (j : Nat), j < W.length → (wcells W)[j * 2]? = some (.string (bs (W.getD j ([], 0)).1)) ∧ (wcells W)[j * 2 + 1]? = some (.int .i64 ((W.getD j ([], 0)).2 : Nat))
 | [], j, h => absurd h (Nat.not_lt_zero j)
 | x :: W, 0, _ => ⟨rfl, rfl⟩
 | x :: W, j + 1, h => by
  have := wcells_at W j (by simpa using h)
  have e : wcells (x :: W) = .string (bs x.1) :: .int .i64 (x.2 : Int) :: wcells W := by simp [wcells]
  rw [e, show (j + 1) * 2 = j * 2 + 1 + 1 by omega]
  simpa using this
def HasWords (w : World) (p : Option Addr) (W : List (List UInt8 × Nat)) : Prop :=
 ∀ j, j < W.length → ∃ g, p = some ⟨g, 0, none⟩ ∧ w.cell? ⟨g, j * 2, none⟩ = some (.string (bs (W.getD j ([], 0)).1)) ∧ w.cell? ⟨g, j * 2 + 1, none⟩ = some (.int .i64 ((W.getD j ([], 0)).2 : Nat))
theorem HasWords.below {w w' : World} {p : Option Addr} {W : List (List UInt8 × Nat)} (h : HasWords w p W) (hb : Below w.heap.size w w') : HasWords w' p W := fun j hj => by
 obtain ⟨g, hp, hc, hd⟩ := h j hj
 exact ⟨g, hp, cell_later hb hc, cell_later hb hd⟩
def Words (w : World) (v : Value) (W : List (List UInt8 × Nat)) : Prop := ∃ p cap, v = .slice p W.length cap ∧ HasWords w p W ∧ W.length ≤ cap ∧ cap ≤ maxLen
theorem words_none (w : World) : Words w (.slice none 0 0) [] := ⟨none, 0, rfl, fun j hj => absurd hj (Nat.not_lt_zero j), Nat.le_refl _, Nat.zero_le _⟩
theorem own_words {w : World} {B : Nat} {e : TypeId} {v : Value} {W : List (List UInt8 × Nat)} (h : w.ownsRow B e 2 v W.length (wcells W)) : Words w v W := by
 obtain ⟨-, ⟨h0, hn⟩ | ⟨g, cap, cur, hv, -, hw, hnc, hcm, -, ht⟩⟩ := h
 ·have : W = [] := List.eq_nil_of_length_eq_zero hn
  subst this h0
  exact words_none w
 ·refine ⟨_, cap, hv, fun j hj => ⟨g, rfl, ?_, ?_⟩, hnc, hcm⟩
  ·have h1 := congrArg (fun x : List Value => x[j * 2]?) ht
   simp only [List.getElem?_take, show j * 2 < W.length * 2 by omega, if_true, Array.getElem?_toList] at h1
   rw [cell_of_row w g (j * 2) _ _ (0, 0) hw, h1]
   exact (wcells_at W j hj).1
  ·have h1 := congrArg (fun x : List Value => x[j * 2 + 1]?) ht
   simp only [List.getElem?_take, show j * 2 + 1 < W.length * 2 by omega, if_true, Array.getElem?_toList] at h1
   rw [cell_of_row w g (j * 2 + 1) _ _ (0, 0) hw, h1]
   exact (wcells_at W j hj).2
theorem info_word : (Tryz.prog.info? 175).map (fun i => (i.zero, i.size, i.bytes)) = some (some (.agg #[.string ByteArray.empty, .int .i64 0]), 2, 24) := by kernel_rfl
theorem info_rword : (Tryz.prog.info? 184).map (fun i => (i.zero, i.size, i.bytes)) = some (some (.agg #[.string ByteArray.empty, .int .i64 0]), 2, 24) := by kernel_rfl
theorem sblank_any (c : Nat) (w : World) :
  Calls Tryz.prog 195 #[.int .i32 c] w fun e w' => e = .returned (.bool (blankR c)) ∧ w = w' := by
 go_enter Tryz.func195, Tryz.ntmps195
 go_wp2
 all_goals
  go_ret
  refine ⟨?_, rfl⟩
  unfold blankR
  refine congrArg (fun b => Ending.returned (Value.bool b)) ?_
  rw [Bool.eq_iff_iff]
  simp
  try omega
def hasFeed (s : List UInt8) : Bool := decide (0 ≤ index s [10])
theorem contains_any (l : List UInt8) (hs : l.length ≤ 1000000) (w : World) (hm : HasMax w) :
  Calls Tryz.prog 193 #[.string (bs l), .string (bs [10])] w fun e w' => e = .returned (.bool (hasFeed l)) ∧ w = w' := by
 obtain ⟨m, hm⟩ := hm
 have h := Any.strings_Contains Tryz.laysContains (bs l) (bs [10]) m w (by rw [bs_size]; omega) hm
 rw [bs_list, bs_list] at h
 exact h.mono fun _ _ ⟨a, b⟩ => ⟨a, b.symm⟩
theorem feed_at (l : List UInt8) : hasFeed l = l.any (fun b => decide (b = 10)) := by
 unfold hasFeed
 induction l with
 | nil => simp [index]
 | cons b t ih =>
  by_cases hb : b = 10
  ·subst hb
   have hi : index ((10 : UInt8) :: t) [10] = 0 := by rw [index]; simp [List.isPrefixOf]
   rw [hi]
   simp
  ·rw [index_cons_ne b t hb]
   have hge := index_ge t [10]
   simp only [List.any_cons, hb, decide_false, Bool.false_or]
   rw [← ih]
   by_cases hm : index t [10] = -1
   ·rw [hm]; decide
   ·have hm' : ¬ (index t [10] == -1) = true := fun e => hm (beq_iff_eq.1 e)
    rw [if_neg hm']
    simp only [decide_eq_decide]
    omega
theorem index35_ne (b : UInt8) (l : List UInt8) (h : b ≠ 35) : index (b :: l) [35] = if index l [35] == -1 then -1 else index l [35] + 1 := by
 have hp : ([35] : List UInt8).isPrefixOf (b :: l) = false := by simp [List.isPrefixOf, Ne.symm h]
 rw [index, hp]
 simp
theorem index35 : ∀ l : List UInt8, (index l [35] = -1 ∧ aheadL l = l) ∨ (index l [35] = (aheadL l).length ∧ (aheadL l).length < l.length)
 | [] => .inl ⟨by simp [index], rfl⟩
 | b :: t => by
  by_cases hb : b = 35
  ·subst hb
   right
   have hi : index ((35 : UInt8) :: t) [35] = 0 := by rw [index]; simp [List.isPrefixOf]
   rw [hi]
   simp [aheadL]
  ·have e : aheadL (b :: t) = b :: aheadL t := by simp [aheadL, hb]
   rw [index35_ne b t hb, e]
   rcases index35 t with ⟨h1, h2⟩ | ⟨h1, h2⟩
   ·left
    rw [h1, h2]
    exact ⟨rfl, rfl⟩
   ·right
    have hm' : ¬ (((aheadL t).length : Int) == -1) = true := fun e => by have := beq_iff_eq.1 e; omega
    rw [h1, if_neg hm']
    simp only [List.length_cons]
    omega
theorem ahead_take (l : List UInt8) : aheadL l = l.take (aheadL l).length := by
 rcases ahead_app l with h | ⟨y, h⟩
 ·rw [h, List.take_length]
 ·have e := congrArg (List.take (aheadL l).length) h
  rw [List.take_left] at e
  exact e.symm
theorem cut_any (l : List UInt8) (hs : l.length ≤ 1000000) (w : World) (hm : HasMax w) :
  Calls Tryz.prog 194 #[.string (bs l), .string (bs [35])] w fun e w' => e = .returned (.tuple #[.string (bs (aheadL l)), .string (bs (l.drop ((aheadL l).length + 1))), .bool (decide ((aheadL l).length < l.length))]) ∧ ∃ n, w' = w.drewN n := by
 obtain ⟨m, hm⟩ := hm
 have h := Any.strings_Cut Tryz.laysCut (bs l) (bs [35]) m w (by rw [bs_size]; omega) hm
 rw [bs_list, bs_list] at h
 have e : cut l [35] = (aheadL l, l.drop ((aheadL l).length + 1), decide ((aheadL l).length < l.length)) := by
  unfold cut
  rcases index35 l with ⟨h1, h2⟩ | ⟨h1, h2⟩
  ·rw [h1, h2, if_neg (by decide), List.drop_eq_nil_of_le (by omega), decide_eq_false (Nat.lt_irrefl _)]
  ·rw [h1, if_pos (by omega), show ((aheadL l).length : Int).toNat = (aheadL l).length by omega, ← ahead_take, decide_eq_true h2]
   rfl
 rw [e] at h
 exact h
def frV : Option Nat → Value
 | some f => .int .i64 (f : Int)
 | none => .int .i64 (-1)
def wordsR (s : List UInt8) : List (List UInt8 × Nat) × Nat := if validD s && !hasFeed s then (wordsL (aheadL s), 0) else ([], 5)
def WordsAt (t : List UInt8) (w wr : World) (k0 : Nat) (v fr fi n : Value) (R : List (Nat × Nat)) : Prop :=
 ∃ p k : Nat, ∃ st : Option Nat, ∃ done : List (Nat × Nat), p ≤ t.length ∧ k ≤ p ∧ n = .int .i64 k ∧ fr = frV st ∧ (∀ f, st = some f → f ≤ p ∧ fi = .int .i64 ((colN t 0 f + 1 : Nat) : Int)) ∧
  wr.ownsRow (k0 + 1) 175 2 v done.length (wcells (done.map (wordAt t))) ∧ wr.heap[k0]? = some (.stringIter (bs t) p) ∧ Below w.heap.size w wr ∧ k0 < wr.heap.size ∧
  RunesTo t p k ∧ R = done ++ scanGo t (t.length - p) p st ∧ done.length ≤ p
set_option maxRecDepth 100000 in
set_option maxHeartbeats 2000000 in
theorem swords_any (s : List UInt8) (hs : s.length ≤ 1000000) (w : World) (hm : HasMax w) :
  Calls Tryz.prog 154 #[.string (bs s)] w fun e w' => ∃ v, e = .returned (.tuple #[v, .int .i64 ((wordsR s).2 : Nat)]) ∧ Words w' v (wordsR s).1 ∧ Below w.heap.size w w' := by
 have HC := Lib.hid (lrunes_any s hs)
 have hv := runesN_snd s
 generalize runesN s = N at *
 obtain ⟨N1, N2⟩ := N
 simp only at HC hv
 subst hv
 have HF := Lib.hid (contains_any s hs)
 have HX := Lib.hid (cut_any s hs)
 have HM := Lib.hid hm
 clear hm
 have eR : wordsR s = if validD s && !hasFeed s then (wordsL (aheadL s), 0) else ([], 5) := rfl
 rw [eR]
 clear eR
 have hlen := ahead_len s
 generalize validD s = V at *
 generalize hasFeed s = F at *
 cases V with
 | false =>
  go_enter Tryz.func154, Tryz.ntmps154
  go_wp2_with fail
  refine (HC.out _).mono ?_
  rintro e w1 ⟨rfl, hb1⟩
  go_wp2_with fail
  go_ret2
  exact ⟨_, rfl, words_none _, hb1⟩
 | true =>
  cases F with
  | true =>
   go_enter Tryz.func154, Tryz.ntmps154
   go_wp2_with fail
   refine (HC.out _).mono ?_
   rintro e w1 ⟨rfl, hb1⟩
   have HM1 := Lib.hid (HM.out.below hb1)
   go_wp2_with fail
   refine (HF.out _ HM1.out).mono ?_
   rintro e w' ⟨rfl, rfl⟩
   go_wp2_with fail
   go_ret2
   exact ⟨_, rfl, words_none _, hb1⟩
  | false =>
   show Calls _ _ _ _ fun e w' => ∃ v, e = .returned (.tuple #[v, .int .i64 ((0 : Nat) : Int)]) ∧ Words w' v (wordsL (aheadL s)) ∧ Below w.heap.size w w'
   have hlt : (aheadL s).length ≤ 1000000 := by omega
   generalize aheadL s = t at *
   obtain ⟨R, hR⟩ : ∃ R, scanL t = R := ⟨_, rfl⟩
   have eW : wordsL t = R.map (wordAt t) := by rw [← hR]; rfl
   rw [eW]
   have HR := Lib.hid hR
   clear hR eW hlen
   obtain ⟨i0, hi, hz0, hz1, hz2⟩ := info_parts info_word
   go_enter Tryz.func154, Tryz.ntmps154
   go_wp2_with fail
   refine (HC.out _).mono ?_
   rintro e w1 ⟨rfl, hb1⟩
   have HM1 := Lib.hid (HM.out.below hb1)
   go_wp2_with fail
   refine (HF.out _ HM1.out).mono ?_
   rintro e w' ⟨rfl, rfl⟩
   go_wp2_with fail
   refine (HX.out _ HM1.out).mono ?_
   rintro e w2 ⟨rfl, q, rfl⟩
   have hb2 : Below w.heap.size w (w1.drewN q) := hb1.trans ⟨rfl, rfl, rfl, Nat.le_refl _, fun _ _ => rfl⟩
   go_wp2_with fail
   go_loopw [6, 7, 8, 9] (fun v fr fi n wr => WordsAt t w wr w1.heap.size v fr fi n R) (fun _ _ _ _ wr => t.length - wr.iterPos w1.heap.size)
   case atStart =>
    refine ⟨0, 0, none, [], Nat.zero_le _, Nat.le_refl _, rfl, rfl, (fun f hf => by cases hf), World.ownsRow_nil _ _ _ _, ?_, hb2.alloc (by have := hb1.size; simpa using this) _, by simp [World.iter], runesTo_start t, by rw [← HR.out]; rfl, Nat.le_refl _⟩
    have h5 := World.iter_heap (w1.drewN q) (bs t) 0
    exact h5
   case round =>
    obtain ⟨p, k, st, done, hp, hkp, rfl, rfl, hfi, hown, hit, hbw, hk0, hrt, hR, hdl⟩ := hrel
    have HFI := Lib.hid hfi
    have HRT := Lib.hid hrt
    have HRR := Lib.hid hR
    clear hfi hrt hR
    by_cases hlt : p < t.length
    ·have hb := one_bounds t p hlt
     have hnx := fun ty => run_next_any_at (P := Tryz.prog) wr w1.heap.size (bs t) p ty hit (by rw [bs_size]; exact hlt)
     rw [← decodeL_drop, bs_list] at hnx
     have eo : decodeL (t.drop p) = oneAt t p := rfl
     rw [eo] at hnx
     have hit2 := iterAt_heap wr w1.heap.size (bs t) p (p + (oneAt t p).2) hit
     have hbw2 := below_iterAt hbw (k := w1.heap.size) (by have := hb1.size; omega) (bs t) (p + (oneAt t p).2)
     have hown' := ownsRow_iterAt hown (k := w1.heap.size) (by omega) (bs t) (p + (oneAt t p).2)
     have hsz := iterAt_size wr w1.heap.size (bs t) (p + (oneAt t p).2)
     obtain ⟨sr1, sr2⟩ := scan_rune t p st hlt
     have hrt2 := Lib.hid (runesTo_step t p k hlt HRT.out)
     have hcol := runesTo_col t p k HRT.out
     have hle : (oneAt t p).1 ≤ 1114111 := decodeL_rune _
     have HB := Lib.hid (sblank_any (oneAt t p).1)
     obtain ⟨D, hD⟩ : ∃ D, oneAt t p = D := ⟨_, rfl⟩
     rw [hD] at hb hnx hit2 hbw2 hown' sr1 sr2 hrt2 hle HB hsz
     obtain ⟨WW, hWW⟩ : ∃ WW, wr.iterAt w1.heap.size (bs t) (p + D.2) = WW := ⟨_, rfl⟩
     rw [hWW] at hnx hit2 hbw2 hown' hsz
     have hpos : WW.iterPos w1.heap.size = p + D.2 := iterPos_of hit2
     have hpos0 : wr.iterPos w1.heap.size = p := iterPos_of hit
     have hk1 : w1.heap.size < WW.heap.size := by omega
     have hk2 := hbw2.size
     clear eo hD hWW hown hit hbw hsz
     cases hbl : blankR D.1 with
     | true =>
      rw [hbl] at HB
      have hs1 := Lib.hid (sr1 hbl)
      clear sr1 sr2 hbl
      cases st with
      | none =>
       have hR2 := Lib.hid (HRR.out.trans (congrArg (done ++ ·) hs1.out))
       clear HRR hs1
       simp only [frV, pushed, List.nil_append] at hR2 ⊢
       go_wp2_with (go_at_call 195; refine (HB.out _).mono ?_; rintro e w3 ⟨rfl, rfl⟩)
       go_roundw
       case rel => exact ⟨p + D.2, k + 1, none, done, hb.2, by omega, by go_num, rfl, (fun f hf => by cases hf), hown', hit2, hbw2, hk1, hrt2.out, hR2.out, by omega⟩
       case measure => rw [hpos, hpos0]; omega
      | some f =>
       obtain ⟨hfp, rfl⟩ := HFI.out f rfl
       have hR2 := Lib.hid (HRR.out.trans (congrArg (done ++ ·) hs1.out))
       clear HRR hs1 HFI
       simp only [frV, pushed] at hR2 ⊢
       go_wp2_with (first
        | (go_at_call 195; refine (HB.out _).mono ?_; rintro e w3 ⟨rfl, rfl⟩)
        | (at_builtin; refine wpList_append_own _ rfl _ _ 170 rfl (w1.heap.size + 1) 175 i0 (.agg #[.string ByteArray.empty, .int .i64 0]) 2 24 Tryz.underlying170 hi hz0 hz1 hz2 rfl (by decide) _ _ _ rfl (hown'.alloc _) ⟨WW.heap.size, 0, none⟩ 1 1 [.string (bs (curL t f p)), .int .i64 ((colN t 0 f + 1 : Nat) : Int)] rfl rfl ?c1 ?c2 ?c3 ?c4 ?c5 ?_))
       case c1 =>
        intro j u hj
        match j, hj with
        | 0, hj => simp at hj; subst hj; simp [Addr.add, curL]
        | 1, hj => simp at hj; subst hj; simp [Addr.add]
       case c2 => intro u hu; simp at hu; rcases hu with rfl | rfl <;> rfl
       case c3 => unfold maxLen; omega
       case c4 => omega
       case c5 => simp; omega
       ·intro v' w4 hown4 hgrow hnil
        have hlow := hown'.lt
        have hit4 : w4.heap[w1.heap.size]? = some (.stringIter (bs t) (p + D.2)) := by
         rw [hgrow.block w1.heap.size (by simp; omega) (fun e => by have := (hlow _ e.symm).1; omega), heap_alloc_old WW _ hk1]
         exact hit2
        have hb4 : Below w.heap.size w w4 := (hbw2.alloc hk2 _).grown hgrow (by simp; omega) (fun k hk => by have := (hlow k hk).1; have := hb1.size; omega)
        have hk4 : w1.heap.size < w4.heap.size := by have := hgrow.size; simp at this; omega
        have hpos4 : w4.iterPos w1.heap.size = p + D.2 := iterPos_of hit4
        have HO := Lib.hid hown4
        clear hown4 hnil hit2 hbw2 hown' hgrow hlow
        go_wp2_with fail
        go_roundw
        case rel =>
         refine ⟨p + D.2, k + 1, none, done ++ [(f, p)], hb.2, by omega, by go_num, rfl, (fun f hf => by cases hf), ?_, hit4, hb4, hk4, hrt2.out, by rw [hR2.out]; simp, by simp; omega⟩
         have h5 := HO.out
         rw [wcells_next] at h5
         simpa [wordAt] using h5
        case measure => rw [hpos4, hpos0]; omega
     | false =>
      rw [hbl] at HB
      have hs2 := Lib.hid (sr2 hbl)
      clear sr1 sr2 hbl
      cases st with
      | none =>
       have hR2 := Lib.hid (HRR.out.trans (congrArg (done ++ ·) hs2.out))
       clear HRR hs2
       simp only [frV, Option.getD_none] at hR2 ⊢
       go_wp2_with (go_at_call 195; refine (HB.out _).mono ?_; rintro e w3 ⟨rfl, rfl⟩)
       go_roundw
       case rel => exact ⟨p + D.2, k + 1, some p, done, hb.2, by omega, by go_num, rfl, (fun f hf => by obtain rfl := Option.some.inj hf; exact ⟨by omega, by rw [hcol]; go_num⟩), hown', hit2, hbw2, hk1, hrt2.out, hR2.out, by omega⟩
       case measure => rw [hpos, hpos0]; omega
      | some f =>
       obtain ⟨hfp, rfl⟩ := HFI.out f rfl
       have hR2 := Lib.hid (HRR.out.trans (congrArg (done ++ ·) hs2.out))
       clear HRR hs2 HFI
       simp only [frV, Option.getD_some] at hR2 ⊢
       go_wp2_with (go_at_call 195; refine (HB.out _).mono ?_; rintro e w3 ⟨rfl, rfl⟩)
       go_roundw
       case rel => exact ⟨p + D.2, k + 1, some f, done, hb.2, by omega, by go_num, rfl, (fun g hg => by obtain rfl := Option.some.inj hg; exact ⟨by omega, rfl⟩), hown', hit2, hbw2, hk1, hrt2.out, hR2.out, by omega⟩
       case measure => rw [hpos, hpos0]; omega
    ·have hnx := fun ty => run_next_end_at (P := Tryz.prog) wr w1.heap.size (bs t) p ty hit (by rw [bs_size]; exact hlt)
     have hep : p = t.length := by omega
     have hR2 := Lib.hid (HRR.out.trans (congrArg (done ++ ·) (scan_end t p st (by omega))))
     subst hep
     clear HRR
     cases st with
     | none =>
      simp only [frV, pushed, List.append_nil] at hR2 ⊢
      go_wp2_with fail
      go_ret2
      rw [hR2.out]
      exact ⟨_, rfl, own_words (by rw [List.length_map]; exact hown), hbw⟩
     | some f =>
      obtain ⟨hfp, rfl⟩ := HFI.out f rfl
      simp only [frV, pushed] at hR2 ⊢
      go_wp2_with (at_builtin; refine wpList_append_own _ rfl _ _ 170 rfl (w1.heap.size + 1) 175 i0 (.agg #[.string ByteArray.empty, .int .i64 0]) 2 24 Tryz.underlying170 hi hz0 hz1 hz2 rfl (by decide) _ _ _ rfl (hown.alloc _) ⟨wr.heap.size, 0, none⟩ 1 1 [.string (bs (curL t f t.length)), .int .i64 ((colN t 0 f + 1 : Nat) : Int)] rfl rfl ?c1 ?c2 ?c3 ?c4 ?c5 ?_)
      case c1 =>
       intro j u hj
       match j, hj with
       | 0, hj => simp at hj; subst hj; simp [Addr.add, curL]
       | 1, hj => simp at hj; subst hj; simp [Addr.add]
      case c2 => intro u hu; simp at hu; rcases hu with rfl | rfl <;> rfl
      case c3 => unfold maxLen; omega
      case c4 => omega
      case c5 => simp; omega
      ·intro v' w4 hown4 hgrow hnil
       have HO := Lib.hid hown4
       clear hown4 hnil
       go_wp2_with fail
       go_ret2
       rw [hR2.out]
       refine ⟨_, rfl, own_words (B := w1.heap.size + 1) (e := 175) ?_, ?_⟩
       ·have h5 := HO.out
        rw [wcells_next] at h5
        simpa [wordAt] using h5
       ·exact (hbw.alloc hbw.size _).grown hgrow (by have := hbw.size; simp; omega) (fun k hk => by have := (hown.lt k hk).1; have := hb1.size; omega)
end Go.Proofs.YtmgchjddpmmglaaGreatDoor

namespace Go.Proofs.YtmgchjddpmmglaaGreatDoor
open Go.RowKit Go.Lib
def begun (l : List UInt8) (i : Nat) : Option Nat → List UInt8
 | some f => curL l f i
 | none => []
def WordT (x : List UInt8) : Prop := x ≠ [] ∧ (∀ b ∈ x, blankB b = false) ∧ validD x = true ∧ (∀ b ∈ x, b ≠ 35 ∧ b ≠ 10)
theorem join_two (x y : List UInt8) (r : List (List UInt8)) : join (x :: y :: r) [32] = x ++ 32 :: join (y :: r) [32] := by
 rw [join_cons, join_cons]
 simp [joinTail]
end Go.Proofs.YtmgchjddpmmglaaGreatDoor

namespace Go.Proofs.YtmgchjddpmmglaaGreatDoor
open Go.RowKit
theorem as_nil (t : Nat) (w : World) (h : t = 2 ∨ t = 3) : (Instr.typeAssert .nilIface 20 t true).run Tryz.prog w = .ok (.tuple #[.int .i64 0, .bool false]) w := by
 rcases h with rfl | rfl <;> kernel_rfl
theorem as_nil_lost (w : World) : (Instr.typeAssert .nilIface 20 252 true).run Tryz.prog w = .ok (.tuple #[.agg #[], .bool false]) w := by kernel_rfl
theorem as_int64 (v : Value) (w : World) : (Instr.typeAssert (.iface 2 v) 20 2 true).run Tryz.prog w = .ok (.tuple #[v, .bool true]) w := by kernel_rfl
theorem as_int64_must (v : Value) (w : World) : (Instr.typeAssert (.iface 2 v) 20 2 false).run Tryz.prog w = .ok v w := by kernel_rfl
theorem as_int (v : Value) (w : World) : (Instr.typeAssert (.iface 3 v) 20 3 true).run Tryz.prog w = .ok (.tuple #[v, .bool true]) w := by kernel_rfl
theorem as_lost (v : Value) (w : World) : (Instr.typeAssert (.iface 252 v) 20 252 true).run Tryz.prog w = .ok (.tuple #[v, .bool true]) w := by kernel_rfl
theorem zero_int64 (w : World) : ((do pure (Value.tuple #[← zeroValue 2, .bool false])) : Sem Value).run Tryz.prog w = .ok (.tuple #[.int .i64 0, .bool false]) w := by kernel_rfl
theorem zero_int (w : World) : ((do pure (Value.tuple #[← zeroValue 3, .bool false])) : Sem Value).run Tryz.prog w = .ok (.tuple #[.int .i64 0, .bool false]) w := by kernel_rfl
theorem zero_lost (w : World) : ((do pure (Value.tuple #[← zeroValue 252, .bool false])) : Sem Value).run Tryz.prog w = .ok (.tuple #[.agg #[], .bool false]) w := by kernel_rfl
theorem as_int64_no (u : TypeId) (v : Value) (w : World) (h : (u == 2) = false) : (Instr.typeAssert (.iface u v) 20 2 true).run Tryz.prog w = .ok (.tuple #[.int .i64 0, .bool false]) w := by
 have e : (Instr.typeAssert (.iface u v) 20 2 true).run Tryz.prog w = (if u = 2 then (pure (Value.tuple #[v, .bool true]) : Sem Value) else (do pure (Value.tuple #[← zeroValue 2, .bool false]))).run Tryz.prog w := by kernel_rfl
 rw [e, if_neg (by simpa using h)]; exact zero_int64 w
theorem as_int_no (u : TypeId) (v : Value) (w : World) (h : (u == 3) = false) : (Instr.typeAssert (.iface u v) 20 3 true).run Tryz.prog w = .ok (.tuple #[.int .i64 0, .bool false]) w := by
 have e : (Instr.typeAssert (.iface u v) 20 3 true).run Tryz.prog w = (if u = 3 then (pure (Value.tuple #[v, .bool true]) : Sem Value) else (do pure (Value.tuple #[← zeroValue 3, .bool false]))).run Tryz.prog w := by kernel_rfl
 rw [e, if_neg (by simpa using h)]; exact zero_int w
theorem as_lost_no (u : TypeId) (v : Value) (w : World) (h : (u == 252) = false) : (Instr.typeAssert (.iface u v) 20 252 true).run Tryz.prog w = .ok (.tuple #[.agg #[], .bool false]) w := by
 have e : (Instr.typeAssert (.iface u v) 20 252 true).run Tryz.prog w = (if u = 252 then (pure (Value.tuple #[v, .bool true]) : Sem Value) else (do pure (Value.tuple #[← zeroValue 252, .bool false]))).run Tryz.prog w := by kernel_rfl
 rw [e, if_neg (by simpa using h)]; exact zero_lost w
end Go.Proofs.YtmgchjddpmmglaaGreatDoor

namespace Go.Proofs.YtmgchjddpmmglaaGreatDoor
def mayV (k n : Int) : Bool := k == 1 || ((k == 0 || k == 2) && n == 0)
theorem may_cases (k n : Int) : (k = 1 ∧ mayV k n = true) ∨ (k = 0 ∧ n = 0 ∧ mayV k n = true) ∨ (k = 2 ∧ n = 0 ∧ mayV k n = true) ∨
  (k = 0 ∧ (n == 0) = false ∧ (0 == n) = false ∧ mayV k n = false) ∨ (k = 2 ∧ (n == 0) = false ∧ (0 == n) = false ∧ mayV k n = false) ∨
  ((k == 0) = false ∧ (0 == k) = false ∧ (k == 1) = false ∧ (k == 2) = false ∧ mayV k n = false) := by
 by_cases h1 : k = 1
 ·exact .inl ⟨h1, by simp [mayV, h1]⟩
 by_cases h0 : k = 0
 ·by_cases hn : n = 0
  ·exact .inr (.inl ⟨h0, hn, by simp [mayV, h0, hn]⟩)
  ·exact .inr (.inr (.inr (.inl ⟨h0, by simpa using hn, by simpa using fun h => hn h.symm, by simp [mayV, h0, hn]⟩)))
 by_cases h2 : k = 2
 ·by_cases hn : n = 0
  ·exact .inr (.inr (.inl ⟨h2, hn, by simp [mayV, h2, hn]⟩))
  ·exact .inr (.inr (.inr (.inr (.inl ⟨h2, by simpa using hn, by simpa using fun h => hn h.symm, by simp [mayV, h2, hn]⟩))))
 ·exact .inr (.inr (.inr (.inr (.inr ⟨by simpa using h0, by simpa using fun h => h0 h.symm, by simpa using h1, by simpa using h2, by simp [mayV, h0, h1, h2]⟩))))
end Go.Proofs.YtmgchjddpmmglaaGreatDoor

namespace Go.Proofs.YtmgchjddpmmglaaGreatDoor
def isDig (c : UInt8) : Bool := 48 ≤ c.toNat && c.toNat ≤ 57
def decL (m : Nat) : List UInt8 := if m < 10 then [UInt8.ofNat (48 + m)] else decL (m / 10) ++ [UInt8.ofNat (48 + m % 10)]
termination_by m
def printL (n : Int) : List UInt8 := if n < 0 then 45 :: decL n.natAbs else decL n.natAbs
def valL (t : List UInt8) : Nat := t.foldl (fun a c => a * 10 + (c.toNat - 48)) 0
def digT (t : List UInt8) (neg : Bool) : Bool := !t.isEmpty && !(t.head? == some 48 && (neg || decide (1 < t.length))) && t.all isDig
def negL (s : List UInt8) : Bool := s.head? == some 45
def restL (s : List UInt8) : List UInt8 := if negL s then s.tail else s
def digL (s : List UInt8) : Bool := digT (restL s) (negL s)
def stepP (acc : Option Int) (c : UInt8) : Option Int := acc.bind fun n =>
 if n < -922337203685477580 ∨ (n = -922337203685477580 ∧ (8 : Int) < (c.toNat - 48 : Nat)) then none else some (n * 10 - (c.toNat - 48 : Nat))
def foldP (t : List UInt8) : Option Int := t.foldl stepP (some 0)
def parseL (s : List UInt8) : Int × Int :=
 if digL s then
  match foldP (restL s) with
  | none => (0, 8)
  | some n => if negL s then (n, 0) else if n = -9223372036854775808 then (0, 8) else (-n, 0)
 else (0, 5)
theorem foldP_snoc (t : List UInt8) (c : UInt8) : foldP (t ++ [c]) = stepP (foldP t) c := by simp [foldP]
theorem valL_snoc (t : List UInt8) (c : UInt8) : valL (t ++ [c]) = valL t * 10 + (c.toNat - 48) := by simp [valL]
theorem snoc_ind {P : List UInt8 → Prop} (h0 : P []) (h1 : ∀ t c, P t → P (t ++ [c])) (t : List UInt8) : P t := by
 have : ∀ l : List UInt8, P l.reverse := by
  intro l
  induction l with
  | nil => exact h0
  | cons c l ih => rw [List.reverse_cons]; exact h1 _ _ ih
 simpa using this t.reverse
theorem isDig_iff (c : UInt8) : isDig c = true ↔ 48 ≤ c.toNat ∧ c.toNat ≤ 57 := by simp [isDig]
theorem toNat_dig (m : Nat) (h : m < 10) : (UInt8.ofNat (48 + m)).toNat = 48 + m := by
 simp [UInt8.toNat_ofNat]; omega
theorem decL_val (m : Nat) : valL (decL m) = m := by
 induction m using Nat.strongRecOn with
 | _ m ih =>
  rw [decL]
  split
  ·rename_i h; simp only [valL, List.foldl_cons, List.foldl_nil, toNat_dig m h]; omega
  ·rename_i h
   rw [valL_snoc, ih (m / 10) (by omega), toNat_dig _ (by omega)]; omega
theorem decL_ne (m : Nat) : decL m ≠ [] := by
 rw [decL]; split <;> simp
end Go.Proofs.YtmgchjddpmmglaaGreatDoor

namespace Go.Proofs.YtmgchjddpmmglaaGreatDoor
open Go.RowKit
set_option maxHeartbeats 400000 in
theorem dcut_any (l : List UInt8) (hs : l.length ≤ 9223372036854775807) (w : World) :
  Calls Tryz.prog 246 #[.string (bs l), .string ⟨#[45]⟩] w fun e w' => e = .returned (.tuple #[.string (bs (restL l)), .bool (negL l)]) ∧ w = w' := by
 cases l with
 | nil =>
  go_enter Tryz.func246, Tryz.ntmps246
  go_wp2
  go_ret2
  exact ⟨rfl, rfl⟩
 | cons a l =>
  by_cases h : a = 45
  ·subst h
   simp only [List.length_cons] at hs
   go_enter Tryz.func246, Tryz.ntmps246
   go_wp2
   go_ret2
   exact ⟨by simp [restL, negL], rfl⟩
  ·have h' : (a == 45) = false := by simpa using h
   simp only [List.length_cons] at hs
   go_enter Tryz.func246, Tryz.ntmps246
   go_wp2
   go_ret2
   exact ⟨by simp [restL, negL, h'], rfl⟩
theorem cut_of (l t : List UInt8) (neg : Bool) (ht : restL l = t) (hn : negL l = neg) (hs : l.length ≤ 9223372036854775807) (w : World) :
  Calls Tryz.prog 246 #[.string (bs l), .string ⟨#[45]⟩] w fun e w' => e = .returned (.tuple #[.string (bs t), .bool neg]) ∧ w = w' := by
 subst ht; subst hn; exact dcut_any l hs w
theorem all_take_succ (t : List UInt8) (k : Nat) (hk : k < t.length) (h : (t.take k).all isDig = true) (hd : isDig t[k] = true) : (t.take (k + 1)).all isDig = true := by
 rw [List.take_succ_eq_append_getElem hk, List.all_append, h]; simp [hd]
theorem not_all (t : List UInt8) (k : Nat) (hk : k < t.length) (hd : isDig t[k] = false) : t.all isDig = false := by
 rw [List.all_eq_false]; exact ⟨t[k], List.getElem_mem hk, by simp [hd]⟩
theorem ret_bool {a b : Bool} (h : a = b) : Ending.returned (.bool a) = .returned (.bool b) := by rw [h]
theorem u8_eq (a b : UInt8) : ((a.toNat : Int) == (b.toNat : Int)) = (a == b) := by
 rw [Bool.eq_iff_iff]; simp only [beq_iff_eq, ← UInt8.toNat_inj]; omega
set_option maxHeartbeats 1000000 in
theorem digits_run (l : List UInt8) (a : UInt8) (r : List UInt8) (neg : Bool) (ht : restL l = a :: r) (hn : negL l = neg) (hs : l.length ≤ 9223372036854775807) (hr : r.length + 1 ≤ 9223372036854775807)
  (hc : (a == 48) = false) (res : Bool) (hres : (a :: r).all isDig = res) (w : World) :
  Calls Tryz.prog 245 #[.string (bs l)] w fun e w' => e = .returned (.bool res) ∧ w = w' := by
 have HR := Lib.hid hres
 clear hres
 have HC := Lib.hid (cut_of l (a :: r) neg ht hn hs)
 clear ht hn hs
 have ha : ((a.toNat : Int) == 48) = false := by rw [← hc]; exact u8_eq a 48
 go_enter Tryz.func245, Tryz.ntmps245
 go_wp2_with (go_at_call 246; refine (HC.out _).mono ?_; rintro e w1 ⟨rfl, rfl⟩)
 clear HC ha hc
 have e1 : ((r.length : Int) + 1) = ((a :: r).length : Int) := by simp
 have e2 : (a :: r).length ≤ 9223372036854775807 := by simpa using hr
 rw [e1]
 clear e1 hr
 generalize a :: r = t at *
 go_loop [5, 28] (fun _ i => ∃ k : Nat, k ≤ t.length ∧ i = .int .i64 k ∧ (t.take k).all isDig = true) (fun _ i => t.length - (RowKit.intOf i).toNat)
 case atStart => exact ⟨0, Nat.zero_le _, rfl, rfl⟩
 case round =>
  obtain ⟨k, hk, rfl, hall⟩ := hrel
  have HA := Lib.hid hall
  clear hall
  by_cases hlt : k < t.length
  ·by_cases hd : isDig t[k] = true
   ·have HS := Lib.hid (all_take_succ t k hlt HA.out hd)
    have hd1 := ((isDig_iff _).1 hd).1
    have hd2 := ((isDig_iff _).1 hd).2
    clear hd
    go_wp2
    go_round
    case rel => exact ⟨k + 1, by omega, by go_num, HS.out⟩
    case measure => simp [RowKit.intOf]; omega
   ·have hf : isDig t[k] = false := by simpa using hd
    have HF := Lib.hid (not_all t k hlt hf)
    have hor : t[k].toNat < 48 ∨ (48 ≤ t[k].toNat ∧ 57 < t[k].toNat) := by
     have : ¬ (48 ≤ t[k].toNat ∧ t[k].toNat ≤ 57) := fun h => hd ((isDig_iff _).2 h)
     omega
    clear hd hf
    rcases hor with h1 | ⟨h1, h2⟩
    all_goals
     go_wp2
     go_ret
     exact ⟨ret_bool (HF.out.symm.trans HR.out), rfl⟩
  ·have e : t.take k = t := List.take_of_length_le (by omega)
   have HA' := HA.out
   rw [e] at HA'
   have HB := Lib.hid HA'
   clear HA HA' e
   go_wp2
   go_ret
   exact ⟨ret_bool (HB.out.symm.trans HR.out), rfl⟩
set_option maxHeartbeats 1000000 in
theorem digits_zero (l : List UInt8) (ht : restL l = [48]) (hn : negL l = false) (hs : l.length ≤ 9223372036854775807) (w : World) :
  Calls Tryz.prog 245 #[.string (bs l)] w fun e w' => e = .returned (.bool true) ∧ w = w' := by
 have HC := Lib.hid (cut_of l [48] false ht hn hs)
 clear ht hn hs
 go_enter Tryz.func245, Tryz.ntmps245
 go_wp2_with (go_at_call 246; refine (HC.out _).mono ?_; rintro e w1 ⟨rfl, rfl⟩)
 go_rounds 2
 go_ret
 exact ⟨rfl, rfl⟩
set_option maxHeartbeats 1000000 in
theorem digits_nil (l : List UInt8) (neg : Bool) (ht : restL l = []) (hn : negL l = neg) (hs : l.length ≤ 9223372036854775807) (w : World) :
  Calls Tryz.prog 245 #[.string (bs l)] w fun e w' => e = .returned (.bool false) ∧ w = w' := by
 have HC := Lib.hid (cut_of l [] neg ht hn hs)
 clear ht hn hs
 go_enter Tryz.func245, Tryz.ntmps245
 go_wp2_with (go_at_call 246; refine (HC.out _).mono ?_; rintro e w1 ⟨rfl, rfl⟩)
 go_ret
 exact ⟨rfl, rfl⟩
set_option maxHeartbeats 1000000 in
theorem digits_lead (l r : List UInt8) (neg : Bool) (ht : restL l = 48 :: r) (hn : negL l = neg) (hs : l.length ≤ 9223372036854775807) (hr : r.length + 1 ≤ 9223372036854775807) (hc : neg = true ∨ (neg = false ∧ 0 < r.length)) (w : World) :
  Calls Tryz.prog 245 #[.string (bs l)] w fun e w' => e = .returned (.bool false) ∧ w = w' := by
 have HC := Lib.hid (cut_of l (48 :: r) neg ht hn hs)
 clear ht hn hs
 rcases hc with rfl | ⟨rfl, hc⟩
 all_goals
  go_enter Tryz.func245, Tryz.ntmps245
  go_wp2_with (go_at_call 246; refine (HC.out _).mono ?_; rintro e w1 ⟨rfl, rfl⟩)
  go_ret
  exact ⟨rfl, rfl⟩
theorem rest_len (l : List UInt8) : (restL l).length ≤ l.length := by unfold restL; split <;> simp
theorem digits_any (l : List UInt8) (hs : l.length ≤ 9223372036854775807) (w : World) :
  Calls Tryz.prog 245 #[.string (bs l)] w fun e w' => e = .returned (.bool (digL l)) ∧ w = w' := by
 have hl := rest_len l
 unfold digL
 cases ht : restL l with
 | nil => exact digits_nil l _ ht rfl hs w
 | cons a r =>
  rw [ht] at hl
  simp only [List.length_cons] at hl
  by_cases ha : a = 48
  ·subst ha
   by_cases hc : negL l = true ∨ 0 < r.length
   ·have e : digT (48 :: r) (negL l) = false := by
     rcases hc with h | h <;> simp [digT, h]
    rw [e]
    refine digits_lead l r _ ht rfl hs (by omega) ?_ w
    cases hn : negL l
    ·rw [hn] at hc; exact .inr ⟨rfl, by simpa using hc⟩
    ·exact .inl rfl
   ·have hn : negL l = false := by
     cases h : negL l
     ·rfl
     ·exact absurd (.inl h) hc
    have hr : r = [] := List.eq_nil_of_length_eq_zero (by have : ¬ 0 < r.length := fun h => hc (.inr h)
                                                          omega)
    subst hr
    rw [hn, show digT [48] false = true from rfl]
    exact digits_zero l ht hn hs w
  ·have ha' : (a == 48) = false := by simpa using ha
   have e : digT (a :: r) (negL l) = (a :: r).all isDig := by
    unfold digT
    rw [List.head?_cons, show ((some a : Option UInt8) == some 48) = false by simpa using ha]
    simp
   rw [e]
   exact digits_run l a r _ ht rfl hs (by omega) ha' _ rfl w
set_option maxHeartbeats 2000000 in
theorem refdigits_neg (a : UInt8) (r : List UInt8) (hr : r.length + 2 ≤ 9223372036854775807)
  (hc : (a == 48) = false) (res : Bool) (hres : (a :: r).all isDig = res) (w : World) :
  Calls Tryz.prog 233 #[.string (bs (45 :: a :: r))] w fun e w' => e = .returned (.bool res) ∧ w = w' := by
 have HR := Lib.hid hres
 clear hres
 have ha : ((a.toNat : Int) == 48) = false := by rw [← hc]; exact u8_eq a 48
 rcases (show ((r.length : Int) + 1 ≤ 1) ∨ (1 : Int) < (r.length : Int) + 1 by omega) with hcase | hcase
 all_goals
  go_enter Tryz.func233, Tryz.ntmps233
  go_wp2_with fail
  clear ha hc
  have e2 : (a :: r).length ≤ 9223372036854775807 := by simp; omega
  clear hr hcase
  generalize a :: r = t at *
  go_loop [4] (fun i => ∃ k : Nat, k ≤ t.length ∧ i = .int .i64 k ∧ (t.take k).all isDig = true) (fun i => t.length - (RowKit.intOf i).toNat)
  case atStart => exact ⟨0, Nat.zero_le _, rfl, rfl⟩
  case round =>
   obtain ⟨k, hk, rfl, hall⟩ := hrel
   have HA := Lib.hid hall
   clear hall
   by_cases hlt : k < t.length
   ·by_cases hd : isDig t[k] = true
    ·have HS := Lib.hid (all_take_succ t k hlt HA.out hd)
     have hd1 := ((isDig_iff _).1 hd).1
     have hd2 := ((isDig_iff _).1 hd).2
     clear hd
     go_wp2
     go_round
     case rel => exact ⟨k + 1, by omega, by go_num, HS.out⟩
     case measure => simp [RowKit.intOf]; omega
    ·have hf : isDig t[k] = false := by simpa using hd
     have HF := Lib.hid (not_all t k hlt hf)
     have hor : t[k].toNat < 48 ∨ (48 ≤ t[k].toNat ∧ 57 < t[k].toNat) := by
      have : ¬ (48 ≤ t[k].toNat ∧ t[k].toNat ≤ 57) := fun h => hd ((isDig_iff _).2 h)
      omega
     clear hd hf
     rcases hor with h1 | ⟨h1, h2⟩
     all_goals
      go_wp2
      go_ret
      exact ⟨ret_bool (HF.out.symm.trans HR.out), rfl⟩
   ·have e : t.take k = t := List.take_of_length_le (by omega)
    have HA' := HA.out
    rw [e] at HA'
    have HB := Lib.hid HA'
    clear HA HA' e
    go_wp2
    go_ret
    exact ⟨ret_bool (HB.out.symm.trans HR.out), rfl⟩
set_option maxHeartbeats 2000000 in
theorem refdigits_pos (a : UInt8) (r : List UInt8) (hr : r.length + 2 ≤ 9223372036854775807)
  (hc : (a == 48) = false) (hm : (a == 45) = false) (res : Bool) (hres : (a :: r).all isDig = res) (w : World) :
  Calls Tryz.prog 233 #[.string (bs (a :: r))] w fun e w' => e = .returned (.bool res) ∧ w = w' := by
 have HR := Lib.hid hres
 clear hres
 have ha : ((a.toNat : Int) == 48) = false := by rw [← hc]; exact u8_eq a 48
 have hm' : ((a.toNat : Int) == 45) = false := by rw [← hm]; exact u8_eq a 45
 rcases (show ((r.length : Int) + 1 ≤ 1) ∨ (1 : Int) < (r.length : Int) + 1 by omega) with hcase | hcase
 all_goals
  go_enter Tryz.func233, Tryz.ntmps233
  go_wp2_with fail
  clear hm hm'
  clear ha hc
  have e2 : (a :: r).length ≤ 9223372036854775807 := by simp; omega
  clear hr hcase
  generalize a :: r = t at *
  go_loop [4] (fun i => ∃ k : Nat, k ≤ t.length ∧ i = .int .i64 k ∧ (t.take k).all isDig = true) (fun i => t.length - (RowKit.intOf i).toNat)
  case atStart => exact ⟨0, Nat.zero_le _, rfl, rfl⟩
  case round =>
   obtain ⟨k, hk, rfl, hall⟩ := hrel
   have HA := Lib.hid hall
   clear hall
   by_cases hlt : k < t.length
   ·by_cases hd : isDig t[k] = true
    ·have HS := Lib.hid (all_take_succ t k hlt HA.out hd)
     have hd1 := ((isDig_iff _).1 hd).1
     have hd2 := ((isDig_iff _).1 hd).2
     clear hd
     go_wp2
     go_round
     case rel => exact ⟨k + 1, by omega, by go_num, HS.out⟩
     case measure => simp [RowKit.intOf]; omega
    ·have hf : isDig t[k] = false := by simpa using hd
     have HF := Lib.hid (not_all t k hlt hf)
     have hor : t[k].toNat < 48 ∨ (48 ≤ t[k].toNat ∧ 57 < t[k].toNat) := by
      have : ¬ (48 ≤ t[k].toNat ∧ t[k].toNat ≤ 57) := fun h => hd ((isDig_iff _).2 h)
      omega
     clear hd hf
     rcases hor with h1 | ⟨h1, h2⟩
     all_goals
      go_wp2
      go_ret
      exact ⟨ret_bool (HF.out.symm.trans HR.out), rfl⟩
   ·have e : t.take k = t := List.take_of_length_le (by omega)
    have HA' := HA.out
    rw [e] at HA'
    have HB := Lib.hid HA'
    clear HA HA' e
    go_wp2
    go_ret
    exact ⟨ret_bool (HB.out.symm.trans HR.out), rfl⟩
set_option maxHeartbeats 1000000 in
theorem refdigits_one (w : World) :
  Calls Tryz.prog 233 #[.string (bs [48])] w fun e w' => e = .returned (.bool true) ∧ w = w' := by
 go_enter Tryz.func233, Tryz.ntmps233
 go_wp2_with fail
 go_rounds 2
 go_ret
 exact ⟨rfl, rfl⟩
set_option maxHeartbeats 1000000 in
theorem refdigits_nil (w : World) :
  Calls Tryz.prog 233 #[.string (bs [])] w fun e w' => e = .returned (.bool false) ∧ w = w' := by
 go_enter Tryz.func233, Tryz.ntmps233
 go_wp2_with fail
 go_ret
 exact ⟨rfl, rfl⟩
set_option maxHeartbeats 1000000 in
theorem refdigits_minus (w : World) :
  Calls Tryz.prog 233 #[.string (bs [45])] w fun e w' => e = .returned (.bool false) ∧ w = w' := by
 go_enter Tryz.func233, Tryz.ntmps233
 go_wp2_with fail
 go_ret
 exact ⟨rfl, rfl⟩
set_option maxHeartbeats 1000000 in
theorem refdigits_minuszero (r : List UInt8) (hr : r.length + 2 ≤ 9223372036854775807) (w : World) :
  Calls Tryz.prog 233 #[.string (bs (45 :: 48 :: r))] w fun e w' => e = .returned (.bool false) ∧ w = w' := by
 cases r with
 | nil =>
  go_enter Tryz.func233, Tryz.ntmps233
  go_wp2_with fail
  go_ret
  exact ⟨rfl, rfl⟩
 | cons b r =>
  simp only [List.length_cons] at hr
  go_enter Tryz.func233, Tryz.ntmps233
  go_wp2_with fail
  go_ret
  exact ⟨rfl, rfl⟩
set_option maxHeartbeats 1000000 in
theorem refdigits_zero (b : UInt8) (r : List UInt8) (hr : r.length + 2 ≤ 9223372036854775807) (w : World) :
  Calls Tryz.prog 233 #[.string (bs (48 :: b :: r))] w fun e w' => e = .returned (.bool false) ∧ w = w' := by
 go_enter Tryz.func233, Tryz.ntmps233
 go_wp2_with fail
 go_ret
 exact ⟨rfl, rfl⟩
theorem refdigits_any (l : List UInt8) (hs : l.length ≤ 9223372036854775806) (w : World) :
  Calls Tryz.prog 233 #[.string (bs l)] w fun e w' => e = .returned (.bool (digL l)) ∧ w = w' := by
 have hne : ∀ (a : UInt8) (neg : Bool) (r : List UInt8), a ≠ 48 → digT (a :: r) neg = (a :: r).all isDig := fun a neg r ha => by
  unfold digT
  rw [List.head?_cons, show ((some a : Option UInt8) == some 48) = false by simpa using ha]
  simp
 cases l with
 | nil => exact refdigits_nil w
 | cons a l =>
  simp only [List.length_cons] at hs
  by_cases hm : a = 45
  ·subst hm
   have e : digL (45 :: l) = digT l true := by simp [digL, restL, negL]
   rw [e]
   cases l with
   | nil => exact refdigits_minus w
   | cons b r =>
    simp only [List.length_cons] at hs
    by_cases hb : b = 48
    ·subst hb
     rw [show digT (48 :: r) true = false by simp [digT]]
     exact refdigits_minuszero r (by omega) w
    ·rw [hne b true r hb]
     exact refdigits_neg b r (by omega) (by simpa using hb) _ rfl w
  ·have hm' : (a == 45) = false := by simpa using hm
   have hn : negL (a :: l) = false := by simp [negL, hm]
   have e : digL (a :: l) = digT (a :: l) false := by simp [digL, restL, hn]
   rw [e]
   by_cases ha : a = 48
   ·subst ha
    cases l with
    | nil => exact refdigits_one w
    | cons b r =>
     simp only [List.length_cons] at hs
     rw [show digT (48 :: b :: r) false = false by simp [digT]]
     exact refdigits_zero b r (by omega) w
   ·rw [hne a false l ha]
    exact refdigits_pos a l (by omega) (by simpa using ha) hm' _ rfl w
end Go.Proofs.YtmgchjddpmmglaaGreatDoor
