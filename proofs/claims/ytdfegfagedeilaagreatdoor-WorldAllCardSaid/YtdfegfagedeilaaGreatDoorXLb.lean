/-
  The walks of layer 2 (name): what each function of package name, and of its reference, returns; memory that was there stands as it was. No conditions.
  The walk of layer 1's reference (line): how many bytes the rune at a place has, 0 where there is none. No conditions.
  Layer 1 (line) in plain words: a text's lines, in the program's way and in the reference's; no program in sight. No conditions.
  DERIVED: THE SHELF's CONTRACTS AT THIS DUMP, IN PLAIN WORDS (tools/lay-plain.mjs out of 'TrydShelfL4.lean', which tools/lay-shelf.mjs wrote): THE SAME DECLARATIONS UNDER THE SAME NAMES: 'import', 'namespace', 'open', 'def', 'theorem' AND NOTHING ELSE: no command of the shelf's: FOR A HAND-IN. Each laying: the table of numbers ('.._ren') and one theorem, a field a fact of the dump's own or the kernel's comparison; each contract: ONE APPLICATION.
  The walks of layer 1 (line): how many runes a text has, in the program and in its reference; whether two lists of texts are the same. No conditions.
  The walks of layer 1 (line): a text's lines, in the program and in its reference. No conditions but that internal/bytealg.MaxLen holds a number.
  Layer 1 (line) in plain words: a text without blanks at its ends, as strings.TrimFunc goes and byte by byte; no program in sight. No conditions.
  The walks of layer 1 (line): the runes ahead of a byte, and a text without blanks, in the program and in its reference; the statement LineRunes. No conditions but that unicode/utf8's two tables are as their initialisers lay them and that internal/bytealg.MaxLen holds a number.
  Layer 6 (split) in plain words: a line's words, by bytes and by runes; no program in sight. No conditions.
  DERIVED: THE SHELF's CONTRACTS AT THIS DUMP, IN PLAIN WORDS (tools/lay-plain.mjs out of 'TrydShelfS4.lean', which tools/lay-shelf.mjs wrote): THE SAME DECLARATIONS UNDER THE SAME NAMES: 'import', 'namespace', 'open', 'def', 'theorem' AND NOTHING ELSE: no command of the shelf's: FOR A HAND-IN. Each laying: the table of numbers ('.._ren') and one theorem, a field a fact of the dump's own or the kernel's comparison; each contract: ONE APPLICATION.
  Layer 6 (split): words joined and parted again are the same words, in plain words; and the statements SplitJoins and SplitAgain, walked. No conditions but that unicode/utf8's two tables are as their initialisers lay them and that internal/bytealg.MaxLen holds a number.
  Type assertions on a cell's value, as closed facts of the program's own tables. No conditions.
  Plain law of layer 3 (digit): a number's decimal text, the number of a text; they undo one another. No program in sight.
  The walks of layer 3 (digit): what each function of package digit, and of its reference, returns; memory that was there stands as it was. No conditions.
  A history whose values' numbers are Go's. No conditions.
  DERIVED: THE SHELF's CONTRACTS AT THIS DUMP, IN PLAIN WORDS (tools/lay-plain.mjs out of 'TrydShelfV4.lean', which tools/lay-shelf.mjs wrote): THE SAME DECLARATIONS UNDER THE SAME NAMES: 'import', 'namespace', 'open', 'def', 'theorem' AND NOTHING ELSE: no command of the shelf's: FOR A HAND-IN. Each laying: the table of numbers ('.._ren') and one theorem, a field a fact of the dump's own or the kernel's comparison; each contract: ONE APPLICATION.
  A number as what is appended. No conditions.
-/
import Derived.Test.YtdfegfagedeilaaGreatDoorXLa
import Derived.Lib.SplitLaws
import Derived.Ground.NamesProg
import Derived.Shelf.LaysM
import Derived.Shelf.Strings.Prefix
import Derived.Shelf.Strings.Split
import Derived.Test.YtdfegfagedeilaaGreatDoorProg
import Derived.Laws.RangeAny
import Derived.Shelf.GgClosure.StringsTrimFunc
import Derived.Shelf.Strings.Cut
import Derived.Shelf.Strings.Search3
import Derived.Shelf.Strings.OnBuilder
import Derived.WalkSmall
import Derived.Deep.AppendLies
import Derived.IntWalk
import Derived.Lib.Join
import Derived.Shelf.SlGeneric
import Derived.Shelf.Unicode.ValidAny
namespace Go.Proofs.YtdfegfagedeilaaGreatDoor
open Go.RowKit Go.Lib
def bH (l : List UInt8) (p : Nat) : Nat × Nat := decodeL (l.drop p)
theorem aBc (l : List UInt8) (p : Nat) : bH l p = decodeN (l.length - p) (l.getD p 0).toNat (l.getD (p + 1) 0).toNat (l.getD (p + 2) 0).toNat (l.getD (p + 3) 0).toNat := by
 unfold bH;rw [decodeL_N, List.length_drop, getD_dropU, getD_dropU, getD_dropU, getD_dropU, Nat.add_zero]
theorem kU (l : List UInt8) (p : Nat) (h : p < l.length) : l.getD p 0 = l[p] := by simp [h]
set_option maxRecDepth 100000 in
set_option maxHeartbeats 1000000 in
theorem aVl (l : List UInt8) (p : Nat) (hp : p < l.length) (h : l[p].toNat < 128 ∨ (128 ≤ l[p].toNat ∧ l[p].toNat < 194) ∨ 244 < l[p].toNat) (w : World) :
  Calls Tryz.prog 98 #[.string (bs l), .int .i64 p] w fun e w' => e = .returned (.tuple #[.int .i64 ((bH l p).2 : Nat), .int .i64 ((bH l p).1 : Nat)]) ∧ w = w' := by
 have H := lhid (aBc l p);have h0 := kU l p hp;rcases h with h | ⟨h, h'⟩ | h
 ·go_enter Tryz.func98, Tryz.ntmps98
  go_wp2
  go_ret2
  rw [H.out, h0];simp [decodeN, h]
 ·go_enter Tryz.func98, Tryz.ntmps98
  go_wp2
  go_ret2
  rw [H.out, h0, decodeN_bad _ _ _ _ _ (.inl ⟨h, h'⟩)];exact ⟨rfl, rfl⟩
 ·have hb := l[p].toNat_lt;go_enter Tryz.func98, Tryz.ntmps98
  go_wp2
  go_ret2
  rw [H.out, h0, decodeN_bad _ _ _ _ _ (.inr ⟨by omega, hb⟩)];exact ⟨rfl, rfl⟩
set_option maxRecDepth 100000 in
set_option maxHeartbeats 4000000 in
theorem bId (l : List UInt8) (p : Nat) (hp : p < l.length) (hs : l.length ≤ 4611686018427387904) (h : 194 ≤ l[p].toNat) (h' : l[p].toNat ≤ 223) (w : World) :
  Calls Tryz.prog 98 #[.string (bs l), .int .i64 p] w fun e w' => e = .returned (.tuple #[.int .i64 ((bH l p).2 : Nat), .int .i64 ((bH l p).1 : Nat)]) ∧ w = w' := by
 have h0 := kU l p hp;have hN := aBc l p;rw [h0, bMb _ _ _ _ _ h h'] at hN;by_cases hl : p + 1 < l.length
 ·have h1 := kU l (p + 1) (by omega);rw [h1] at hN;have hb1 := l[p + 1].toNat_lt;have H := lhid hN;clear hN h0 h1;rcases (show (l[p + 1].toNat < 128) ∨ (128 ≤ l[p + 1].toNat ∧ 191 < l[p + 1].toNat) ∨ (128 ≤ l[p + 1].toNat ∧ l[p + 1].toNat ≤ 191) by omega) with ⟨r0⟩ | ⟨r0, r1⟩ | ⟨r0, r1⟩
  ·go_enter Tryz.func98, Tryz.ntmps98; go_wp2; go_rounds 2; go_ret2; rw [H.out, if_neg (by omega)]; exact ⟨rfl, rfl⟩
  ·go_enter Tryz.func98, Tryz.ntmps98; go_wp2; go_rounds 2; go_ret2; rw [H.out, if_neg (by omega)]; exact ⟨rfl, rfl⟩
  ·go_enter Tryz.func98, Tryz.ntmps98; go_wp2; go_rounds 2; go_ret2; rw [H.out, if_pos (by omega)]; refine ⟨?_, rfl⟩; simp; omega
 ·have H := lhid hN;clear hN h0;go_enter Tryz.func98, Tryz.ntmps98; go_wp2; go_ret2; rw [H.out, if_neg (by omega)]; exact ⟨rfl, rfl⟩
end Go.Proofs.YtdfegfagedeilaaGreatDoor

namespace Go.Proofs.YtdfegfagedeilaaGreatDoor
open Go.RowKit Go.Lib
def szD (d : Nat × Nat) : Nat := if d.1 = 65533 ∧ d.2 = 1 then 0 else d.2
def pX (l : List UInt8) (p : Nat) : Nat := szD (bH l p)
end Go.Proofs.YtdfegfagedeilaaGreatDoor

namespace Go.Proofs.YtdfegfagedeilaaGreatDoor
open Go.Lib
def gC : List UInt8 → List UInt8 → List (List UInt8)
 | cur, [] => if cur = [] then [] else [cur]
 | cur, b :: t => if b = 10 then cur :: gC [] t else gC (cur ++ [b]) t
def pR (s : List UInt8) : List (List UInt8) := gC [] s
def cP : List UInt8 → List UInt8 → List (List UInt8)
 | cur, [] => [cur]
 | cur, b :: t => if b = 10 then cur :: cP [] t else cP (cur ++ [b]) t
theorem aGm (b : UInt8) (l : List UInt8) (h : b ≠ 10) : index (b :: l) [10] = if index l [10] == -1 then -1 else index l [10] + 1 := by
 have hp : ([10] : List UInt8).isPrefixOf (b :: l) = false := (by simp [List.isPrefixOf, Ne.symm h]);rw [index, hp];simp
theorem aFg : ∀ s : List UInt8, ∃ h t, splitK [10] 0 (count s [10]) s = h :: t ∧ ∀ cur, cP cur s = (cur ++ h) :: t
 | [] => ⟨[], [], by rw [count_miss (by simp [index])]; rfl, fun cur => by simp [cP]⟩
 | b :: s => by
  obtain ⟨h, t, ih, ic⟩ := aFg s;by_cases hb : b = 10
  ·subst hb;have hi : index ((10 : UInt8) :: s) [10] = 0 := (by rw [index]; simp [List.isPrefixOf]);refine ⟨[], h :: t, ?_, fun cur => ?_⟩
   ·rw [count_cons_eq, Nat.add_comm 1];unfold splitK;rw [hi, if_neg (by decide)];simp [ih]
   ·have := ic [];simp only [cP, if_pos];rw [this];simp
  ·rw [count_cons_ne b 10 s hb];have hx := aGm b s hb
   cases hk : count s [10] with
   | zero =>
    rw [hk] at ih;refine ⟨b :: s, [], rfl, fun cur => ?_⟩;simp only [splitK, List.cons.injEq] at ih;obtain ⟨rfl, rfl⟩ := ih;simp only [cP, if_neg hb, ic];simp
   | succ k =>
    rw [hk] at ih
    obtain ⟨i, hi⟩ : ∃ i : Nat, index s [10] = i := by
     rcases index_spec s [10] with ⟨h1, -⟩ | ⟨i, h1, -⟩
     ·rw [count_miss h1] at hk; omega
     ·exact ⟨i, h1⟩
    have hm : ¬ ((i : Int) == -1) = true := fun e => (by have := beq_iff_eq.1 e; omega);rw [hi, if_neg hm] at hx;have hm' : ¬ ((i : Int) + 1 == -1) = true := fun e => (by have := beq_iff_eq.1 e; omega);have e1 : ((i : Int)).toNat = i := (by omega);have e2 : ((i : Int) + 1).toNat = i + 1 := (by omega);unfold splitK at ih ⊢;rw [hi, if_neg hm, e1] at ih;rw [hx, if_neg hm', e2];simp only [List.cons.injEq] at ih;obtain ⟨rfl, rfl⟩ := ih;refine ⟨b :: List.take i s, splitK [10] 0 k (List.drop (i + 1) s), ?_, fun cur => ?_⟩
    ·simp only [List.length_cons, List.length_nil, Nat.add_zero, Nat.zero_add, List.take_succ_cons, List.drop_succ_cons]
    ·simp only [cP, if_neg hb, ic];simp
theorem bFl (s : List UInt8) : splitK [10] 0 (count s [10]) s = cP [] s := by
 obtain ⟨h, t, h1, h2⟩ := aFg s;rw [h1, h2];rfl
theorem yU : ∀ (t cur : List UInt8), gC cur (t ++ [10]) = cP cur t
 | [], cur => by simp [gC, cP]
 | b :: t, cur => by
  simp only [List.cons_append, gC, cP];rw [yU t, yU t]
theorem wE : ∀ (s cur : List UInt8), (cur ≠ [] ∨ s ≠ []) → s.getLast? ≠ some 10 → gC cur s = cP cur s
 | [], cur, h, _ => by
  have : cur ≠ [] := (by simpa using h);simp [gC, cP, this]
 | [b], cur, _, hl => by
  have : ¬ b = 10 := (by simpa using hl);simp [gC, cP, this]
 | b :: c :: t, cur, _, hl => by
  have hl' : (c :: t).getLast? ≠ some 10 := (by simpa [List.getLast?_cons_cons] using hl);simp only [gC, cP];by_cases hb : b = 10
  ·rw [if_pos hb, if_pos hb];exact congrArg _ (wE (c :: t) [] (.inr (by simp)) hl')
  ·rw [if_neg hb, if_neg hb];exact wE (c :: t) _ (.inr (by simp)) hl'
theorem aTn (s : List UInt8) : s = [] ∨ ∃ t b, s = t ++ [b] := by
 rcases List.eq_nil_or_concat s with h | ⟨t, b, h⟩
 ·exact .inl h
 ·exact .inr ⟨t, b, by simpa using h⟩
theorem aPg (t : List UInt8) (b : UInt8) : hasSuffix (t ++ [b]) [10] = decide (b = 10) := by
 unfold hasSuffix;rw [Bool.eq_iff_iff];rw [List.isSuffixOf_iff_suffix];simp only [decide_eq_true_eq];constructor
 ·rintro ⟨u, hu⟩;have := List.append_inj_right' hu rfl;simpa using this.symm
 ·rintro rfl;exact ⟨t, rfl⟩
theorem aPa (s : List UInt8) (h : s ≠ []) : cP [] (trimSuffix s [10]) = pR s := by
 rcases aTn s with h0 | ⟨t, b, rfl⟩
 ·exact absurd h0 h
 ·unfold trimSuffix pR;rw [aPg];by_cases hb : b = 10
  ·subst hb;simp only [decide_true, if_true];rw [yU];simp
  ·simp only [hb, decide_false];rw [wE _ _ (.inr h) (by simpa using hb)];rfl
def mZ (full : List (List UInt8)) : Nat → List (List UInt8) → List (List UInt8) × Nat × Nat
 | _, [] => (full, 0, 0)
 | n, x :: r => if validD x then mZ full (n + 1) r else ([], n + 1, 5)
def ofL (s : List UInt8) : List (List UInt8) × Nat × Nat := if 65536 < s.length then ([], 0, 6) else mZ (pR s) 0 (pR s)
theorem aEu (full : List (List UInt8)) : ∀ (n : Nat) (r : List (List UInt8)), (mZ full n r).2.2 = 0 → (mZ full n r).1 = full ∧ (mZ full n r).2.1 = 0
 | _, [], _ => ⟨rfl, rfl⟩
 | n, x :: r, h => by
  unfold mZ at h ⊢;split at h
  ·rename_i hv;rw [if_pos hv];exact aEu full (n + 1) r h
  ·simp at h
theorem aIs (full : List (List UInt8)) : ∀ (n : Nat) (r : List (List UInt8)), (mZ full n r).2.2 ≠ 0 → (mZ full n r).1 = [] ∧ (mZ full n r).2.2 = 5
 | _, [], h => absurd rfl h
 | n, x :: r, h => by
  unfold mZ at h ⊢;split at h
  ·rename_i hv;rw [if_pos hv];exact aIs full (n + 1) r h
  ·rename_i hv;rw [if_neg hv];exact ⟨rfl, rfl⟩
theorem yV : ∀ (t cur : List UInt8), (gC cur t).length ≤ t.length + 1
 | [], cur => by
  unfold gC;split <;> simp
 | b :: t, cur => by
  unfold gC;split
  ·have := yV t [];simp only [List.length_cons]; omega
  ·have := yV t (cur ++ [b]);simp only [List.length_cons]; omega
def sR (l : List UInt8) : Nat × Bool := if validD l then ((aQ l).length, true) else (0, false)
def runesFrom (l : List UInt8) (p n : Nat) : Nat × Bool := if validD (l.drop p) then (n + (aQ (l.drop p)).length, true) else (0, false)
theorem aAq (l : List UInt8) : runesFrom l 0 0 = sR l := by simp [runesFrom, sR]
theorem aGu (l : List UInt8) (p n : Nat) (h : l.length ≤ p) : runesFrom l p n = (n, true) := by
 unfold runesFrom;rw [List.drop_eq_nil_of_le h];rfl
theorem kS (l : List UInt8) (p : Nat) (hp : p < l.length) : 1 ≤ (bH l p).2 ∧ p + (bH l p).2 ≤ l.length := by
 have hne : l.drop p ≠ [] := by
  intro e;have := congrArg List.length e;simp at this;omega
 have hw := oV (l.drop p) hne;rw [List.length_drop] at hw;exact ⟨hw.1, by unfold bH; omega⟩
theorem aEx (l : List UInt8) (p n : Nat) (hp : p < l.length) :
  runesFrom l p n = if pX l p = 0 then (0, false) else runesFrom l (p + (bH l p).2) (n + 1) := by
 have hne : l.drop p ≠ [] := by
  intro e;have := congrArg List.length e;simp at this;omega
 have hw := kS l p hp;unfold runesFrom;rw [validD_step _ hne, uE _ hne, List.drop_drop];have e : pX l p = szD (decodeL (l.drop p)) := rfl;have eo : bH l p = decodeL (l.drop p) := rfl;rw [e, eo];rw [eo] at hw;unfold szD;by_cases h : (decodeL (l.drop p)).1 = 65533 ∧ (decodeL (l.drop p)).2 = 1
 ·rw [if_pos h, if_pos h, if_pos rfl];rfl
 ·rw [if_neg h, if_neg h, if_neg (show ¬ (decodeL (l.drop p)).2 = 0 by omega)];simp only [List.length_cons];split
  ·refine Prod.ext ?_ rfl;simp only;omega
  ·rfl
theorem aOy (l : List UInt8) (p : Nat) (h : pX l p ≠ 0) : pX l p = (bH l p).2 := by
 unfold pX szD at h ⊢;split at h
 ·exact absurd rfl h
 ·rename_i hc;rw [if_neg hc]
theorem aSn (l : List UInt8) (p : Nat) (hp : p < l.length) (h : (bH l p).1 = 65533) : hasPrefix (l.drop p) [239, 191, 189] = !decide (pX l p = 0) := by
 have hne : l.drop p ≠ [] := by
  intro e;have := congrArg List.length e;simp at this;omega
 have e : pX l p = szD (decodeL (l.drop p)) := rfl;have eo : bH l p = decodeL (l.drop p) := rfl;have hw := kS l p hp;rw [eo] at h hw;rw [e];have hr : encodeRune (65533 : Int) = [239, 191, 189] := (by decide +kernel);unfold hasPrefix szD;by_cases h1 : (decodeL (l.drop p)).2 = 1
 ·rw [if_pos ⟨h, h1⟩];simp only [decide_true, Bool.not_true];by_cases hx : ([239, 191, 189] : List UInt8).isPrefixOf (l.drop p) = true
  ·obtain ⟨t, ht⟩ := List.isPrefixOf_iff_prefix.1 hx;have := aGc 65533 (.inr ⟨by decide, by decide⟩) t;rw [show ((65533 : Nat) : Int) = 65533 from rfl, hr, ht] at this;rw [this] at h1;simp at h1
  ·exact Bool.eq_false_iff.2 hx
 ·rw [if_neg (fun x => h1 x.2)];have hd : decide ((decodeL (l.drop p)).2 = 0) = false := decide_eq_false (by omega);rw [hd];simp only [Bool.not_false];have := encode_decode (l.drop p) hne (fun x => h1 x.2);rw [h, show ((65533 : Nat) : Int) = 65533 from rfl, hr] at this;exact List.isPrefixOf_iff_prefix.2 ⟨(l.drop p).drop (decodeL (l.drop p)).2, by rw [this, List.take_append_drop]⟩
end Go.Proofs.YtdfegfagedeilaaGreatDoor

namespace Go.Proofs
open Go.Shelf
def Tryz.laysHasPrefix_ren : Go.Shelf.Ren := ⟨fun | 99 => 130 | 206 => 158 | n => n, fun | 9 => 9 | 4 => 4 | 3 => 3 | n => n, fun | n => n⟩
theorem Tryz.laysHasPrefix : Go.Proofs.Lays.n99 Tryz.prog Tryz.laysHasPrefix_ren := {
 mixed := by kernel_rfl
 f99 := Tryz.func130.trans (congrArg some (by kernel_rfl))
 f206 := Tryz.func158.trans (congrArg some (by kernel_rfl))
 t3 := Tryz.underlying3
 a3 := Tryz.isAgg3
 z3 := Tryz.sizeOf3
 v3 := Tryz.zeroValue3
 t4 := Tryz.underlying4
 a4 := Tryz.isAgg4
 z4 := Tryz.sizeOf4
 v4 := Tryz.zeroValue4
 t9 := Tryz.underlying9
 a9 := Tryz.isAgg9
 z9 := Tryz.sizeOf9
 v9 := Tryz.zeroValue9 }
def Tryz.laysTrimSuffix_ren : Go.Shelf.Ren := ⟨fun | 102 => 107 | 209 => 129 | 207 => 157 | n => n, fun | 9 => 9 | 4 => 4 | 3 => 3 | n => n, fun | n => n⟩
theorem Tryz.laysTrimSuffix : Go.Proofs.Lays.n102 Tryz.prog Tryz.laysTrimSuffix_ren := {
 mixed := by kernel_rfl
 f102 := Tryz.func107.trans (congrArg some (by kernel_rfl))
 f207 := Tryz.func157.trans (congrArg some (by kernel_rfl))
 f209 := Tryz.func129.trans (congrArg some (by kernel_rfl))
 t3 := Tryz.underlying3
 a3 := Tryz.isAgg3
 z3 := Tryz.sizeOf3
 v3 := Tryz.zeroValue3
 t4 := Tryz.underlying4
 a4 := Tryz.isAgg4
 z4 := Tryz.sizeOf4
 v4 := Tryz.zeroValue4
 t9 := Tryz.underlying9
 a9 := Tryz.isAgg9
 z9 := Tryz.sizeOf9
 v9 := Tryz.zeroValue9 }
def Tryz.laysSplit_ren : Go.Shelf.Ren := ⟨fun | 146 => 106 | 221 => 128 | 268 => 154 | 138 => 155 | 143 => 156 | 195 => 169 | 197 => 170 | 218 => 171 | 219 => 172 | 260 => 178 | 217 => 179 | 225 => 180 | 224 => 181 | 267 => 182 | 266 => 192 | 314 => 193 | n => n, fun | 9 => 9 | 31 => 22 | 3 => 3 | 4 => 4 | 0 => 0 | 105 => 214 | 21 => 21 | 5 => 5 | 46 => 171 | 119 => 182 | 139 => 185 | 138 => 184 | 146 => 228 | 51 => 197 | n => n, fun | 1 => 3 | 3 => 1 | 4 => 2 | n => n⟩
theorem Tryz.laysSplit : Go.Proofs.LaysM.n146 Tryz.prog Tryz.laysSplit_ren := {
 mixed := by kernel_rfl
 f138 := Tryz.func155.trans (congrArg some (by kernel_rfl))
 f143 := Tryz.func156.trans (congrArg some (by kernel_rfl))
 f146 := Tryz.func106.trans (congrArg some (by kernel_rfl))
 f195 := Tryz.func169.trans (congrArg some (by kernel_rfl))
 f197 := Tryz.func170.trans (congrArg some (by kernel_rfl))
 f217 := Tryz.func179.trans (congrArg some (by kernel_rfl))
 f218 := Tryz.func171.trans (congrArg some (by kernel_rfl))
 f219 := Tryz.func172.trans (congrArg some (by kernel_rfl))
 f221 := Tryz.func128.trans (congrArg some (by kernel_rfl))
 f224 := Tryz.func181.trans (congrArg some (by kernel_rfl))
 f225 := Tryz.func180.trans (congrArg some (by kernel_rfl))
 f260 := Tryz.func178.trans (congrArg some (by kernel_rfl))
 f266 := Tryz.func192.trans (congrArg some (by kernel_rfl))
 f267 := Tryz.func182.trans (congrArg some (by kernel_rfl))
 f268 := Tryz.func154.trans (congrArg some (by kernel_rfl))
 f314 := Tryz.func193.trans (congrArg some (by kernel_rfl))
 t0 := Tryz.underlying0
 a0 := Tryz.isAgg0
 z0 := Tryz.sizeOf0
 v0 := Tryz.zeroValue0
 t3 := Tryz.underlying3
 a3 := Tryz.isAgg3
 z3 := Tryz.sizeOf3
 v3 := Tryz.zeroValue3
 t4 := Tryz.underlying4
 a4 := Tryz.isAgg4
 z4 := Tryz.sizeOf4
 v4 := Tryz.zeroValue4
 t5 := Tryz.underlying5
 a5 := Tryz.isAgg5
 z5 := Tryz.sizeOf5
 v5 := Tryz.zeroValue5
 t9 := Tryz.underlying9
 a9 := Tryz.isAgg9
 z9 := Tryz.sizeOf9
 v9 := Tryz.zeroValue9
 t21 := Tryz.underlying21
 a21 := Tryz.isAgg21
 z21 := Tryz.sizeOf21
 v21 := Tryz.zeroValue21
 t31 := Tryz.underlying22
 a31 := Tryz.isAgg22
 z31 := Tryz.sizeOf22
 v31 := Tryz.zeroValue22
 t46 := Tryz.underlying171
 a46 := Tryz.isAgg171
 z46 := Tryz.sizeOf171
 v46 := Tryz.zeroValue171
 t51 := Tryz.underlying197
 a51 := Tryz.isAgg197
 z51 := Tryz.sizeOf197
 v51 := Tryz.zeroValue197
 t105 := Tryz.underlying214
 a105 := Tryz.isAgg214
 z105 := Tryz.sizeOf214
 v105 := Tryz.zeroValue214
 t119 := Tryz.underlying182
 a119 := Tryz.isAgg182
 z119 := Tryz.sizeOf182
 t138 := Tryz.underlying184
 a138 := Tryz.isAgg184
 z138 := Tryz.sizeOf184
 v138 := Tryz.zeroValue184
 t139 := Tryz.underlying185
 a139 := Tryz.isAgg185
 z139 := Tryz.sizeOf185
 v139 := Tryz.zeroValue185
 t146 := Tryz.underlying228
 a146 := Tryz.isAgg228
 z146 := Tryz.sizeOf228
 v146 := Tryz.zeroValue228
 g1 := by kernel_rfl
 g3 := by kernel_rfl
 g4 := by kernel_rfl
 i0 := by kernel_rfl
 i3 := by kernel_rfl
 i4 := by kernel_rfl
 i5 := by kernel_rfl
 i9 := by kernel_rfl
 i21 := by kernel_rfl
 i31 := by kernel_rfl
 i46 := by kernel_rfl
 i51 := by kernel_rfl
 i105 := by kernel_rfl
 i138 := by kernel_rfl
 i139 := by kernel_rfl
 i146 := by kernel_rfl
 m1 := by kernel_rfl
 s1_3 := fun w h => Go.Proofs.cell_of_shapedOpen_int (zero := #[.int .i64 0]) (t := 3) h (of_decide_eq_true (by kernel_rfl)) (by kernel_rfl) rfl (by kernel_rfl) (by kernel_rfl) Tryz.underlying3
 m3 := by kernel_rfl
 m4 := by kernel_rfl }
end Go.Proofs

namespace Go.Proofs.YtdfegfagedeilaaGreatDoor
open Go.RowKit Go.Lib
theorem bDj (l : List UInt8) (p : Nat) (hp : p < l.length) (w : World) (ty : TypeId) :
  (Instr.next (.pointer (some ⟨w.heap.size, 0, none⟩)) true ty).run Tryz.prog (w.iter (bs l) p) = .ok (.tuple #[.bool true, .int .i64 p, .int .i32 ((bH l p).1 : Nat)]) (w.iter (bs l) (p + (bH l p).2)) := by
 have h := run_next_any (P := Tryz.prog) w (bs l) p ty (by rw [gG]; exact hp);rw [← decodeL_drop] at h;have e : (bs l).data.toList = l := (by simp [bs]);rw [e] at h;exact h
theorem zW (w : World) (s : ByteArray) (p : Nat) : Below w.heap.size w (w.iter s p) := (Below.refl _ _).alloc (Nat.le_refl _) _
theorem aGl (l p : List UInt8) (w : World) :
  Calls Tryz.prog 130 #[.string (bs l), .string (bs p)] w fun e w' => e = .returned (.bool (hasPrefix l p)) ∧ w = w' := by
 have h := Any.strings_HasPrefix Tryz.laysHasPrefix (bs l) (bs p) w;have e : ∀ l, (bs l).data.toList = l := fun l => (by simp [bs]);rw [e, e] at h;exact h.mono fun _ _ ⟨a, b⟩ => ⟨a, b.symm⟩
set_option maxRecDepth 100000 in
set_option maxHeartbeats 2000000 in
theorem aDp (l : List UInt8) (hs : l.length ≤ 1000000) (w : World) :
  Calls Tryz.prog 108 #[.string (bs l)] w fun e w' => e = .returned (.tuple #[.int .i64 ((sR l).1 : Nat), .bool (sR l).2]) ∧ Below w.heap.size w w' := by
 obtain ⟨R, hR⟩ : ∃ R, sR l = R := ⟨_, rfl⟩;rw [hR];have HR := lhid ((aAq l).trans hR);clear hR;go_enter Tryz.func108, Tryz.ntmps108
 go_wp2
 go_loopw [4] (fun i wr => ∃ p k : Nat, p ≤ l.length ∧ k ≤ p ∧ i = .int .i64 k ∧ wr = w.iter (bs l) p ∧ runesFrom l p k = R)
  (fun _ wr => l.length - wr.iterPos w.heap.size)
 case atStart => exact ⟨0, 0, Nat.zero_le _, Nat.le_refl _, rfl, rfl, HR.out⟩
 case round =>
  obtain ⟨p, k, hp, hk, rfl, rfl, hr⟩ := hrel;by_cases hlt : p < l.length
  ·have hb := kS l p hlt;rw [aEx l p k hlt] at hr;have hnx := bDj l p hlt w;have hm := aSn l p hlt;have hg := aOy l p;have HP := lhid (aGl ((l.drop p).take (l.length - p)) [239, 191, 189]);rw [show hasPrefix ((l.drop p).take (l.length - p)) [239, 191, 189] = hasPrefix (l.drop p) [239, 191, 189] by rw [List.take_of_length_le (by rw [List.length_drop]; omega)]] at HP
   have hz : (bH l p).1 ≠ 65533 → pX l p ≠ 0 := fun h => by
    unfold pX szD;rw [if_neg (fun x => h x.1)];omega
   have hle : (bH l p).1 ≤ 1114111 := decodeL_rune _;obtain ⟨S, hS⟩ : ∃ S, pX l p = S := ⟨_, rfl⟩;obtain ⟨D, hD⟩ : ∃ D, bH l p = D := ⟨_, rfl⟩;rw [hS] at hm hg hr hz;rw [hD] at hm hg hr hb hnx hz hle;clear hS hD;have HR2 := lhid hr;clear hr;by_cases h3 : D.1 = 65533
   ·have hp3 := hm h3;rw [hp3] at HP;have e1 : ((D.1 : Int) == 65533) = true := (by simp [h3]);clear hp3 hm hz;by_cases h0 : S = 0
    ·have HS := HR2.out;rw [if_pos h0] at HS;have HS2 := lhid HS;subst h0;clear HS h3;simp only [decide_true, Bool.not_true] at HP;(go_wp2_with fail);refine (HP.out _).mono ?_;rintro e w1 ⟨rfl, rfl⟩;go_wp2_with fail
     go_ret2
     rw [← HS2.out];exact ⟨rfl, zW _ _ _⟩
    ·have HS := HR2.out;rw [if_neg h0] at HS;have HS2 := lhid HS;have hd : decide (S = 0) = false := decide_eq_false h0;rw [hd] at HP;clear HS h3 h0 hd;simp only [Bool.not_false] at HP;(go_wp2_with fail);refine (HP.out _).mono ?_;rintro e w1 ⟨rfl, rfl⟩;(go_wp2_with fail);go_roundw
     case rel => exact ⟨p + D.2, k + 1, hb.2, by omega, by go_num, rfl, HS2.out⟩
     case measure => simp; omega
   ·have HS := HR2.out;rw [if_neg (hz h3)] at HS;have HS2 := lhid HS;have e1 : ((D.1 : Int) == 65533) = false := (by simp; omega);clear HS hm hz hg h3;(go_wp2_with fail);go_roundw
    case rel => exact ⟨p + D.2, k + 1, hb.2, by omega, by go_num, rfl, HS2.out⟩
    case measure => simp; omega
  ·have hnx := fun ty => run_next_end (P := Tryz.prog) w (bs l) p ty (by rw [gG]; exact hlt);rw [aGu l p k (by omega)] at hr;have HS := lhid hr;clear hr;go_wp2_with fail
   go_ret2
   rw [← HS.out];exact ⟨rfl, zW _ _ _⟩
end Go.Proofs.YtdfegfagedeilaaGreatDoor

namespace Go.Proofs.YtdfegfagedeilaaGreatDoor
open Go.RowKit Go.Lib
def HasMax (w : World) : Prop := ∃ m, w.cell? ⟨Tryz.laysSplit_ren.g 1, 0, none⟩ = some (.int .i64 m)
theorem HasMax.below {w w' : World} (h : HasMax w) (hb : Below w.heap.size w w') : HasMax w' := by
 obtain ⟨m, hm⟩ := h;exact ⟨m, cell_later hb hm⟩
theorem aFl (l p : List UInt8) (hs : l.length ≤ 9223372036854775807) (w : World) :
  Calls Tryz.prog 107 #[.string (bs l), .string (bs p)] w fun e w' => e = .returned (.string (bs (trimSuffix l p))) ∧ w = w' := by
 have h := Any.strings_TrimSuffix Tryz.laysTrimSuffix (bs l) (bs p) w (by rw [gG]; exact hs);have e : ∀ l, (bs l).data.toList = l := fun l => (by simp [bs]);rw [e, e] at h;exact h.mono fun _ _ ⟨a, b⟩ => ⟨a, b.symm⟩
theorem bAj (s : List UInt8) (hs : s.length ≤ 1000000) (w : World) (hm : HasMax w) :
  Calls Tryz.prog 106 #[.string (bs s), .string (bs [10])] w fun e w' => e = .returned (.slice (some ⟨w.heap.size, 0, none⟩) (cP [] s).length (cP [] s).length) ∧ qB w' (some ⟨w.heap.size, 0, none⟩) (cP [] s) ∧ Below w.heap.size w w' := by
 obtain ⟨m, hm⟩ := hm;have h := Any.strings_Split { Tryz.laysSplit with } Tryz.laysSplit.i9 (bs s) (bs [10]) m w (by rw [gG]; omega) hm (by rw [gG]; exact Nat.le_refl _);have e : ∀ l, (bs l).data.toList = l := fun l => (by simp [bs]);have hd := splitB_data (bs [10]) 0 (countB (bs s) (bs [10])) (bs s);rw [e, e] at hd;have hc : countB (bs s) (bs [10]) = count s [10] := (by unfold countB; rw [e, e]);rw [hc, bFl] at hd;rw [hc] at h;obtain ⟨L, hL⟩ : ∃ L, splitB (bs [10]) 0 (count s [10]) (bs s) = L := ⟨_, rfl⟩;have hlen := splitB_all (bs [10]) (by rw [gG]; exact Nat.le_refl _) 0 _ (bs s) hc;rw [hL] at hd h hlen;have hl : (cP [] s).length = count s [10] + 1 := (by rw [← hd, List.length_map, hlen]);rw [hl];refine h.mono fun e' w' ⟨h1, h2⟩ => ⟨h1, ?_, ?_⟩
 ·intro j hj;refine ⟨_, rfl, ?_⟩;rw [h2, cell_of_row _ _ j _ _ (0, 0) (heap_alloc_new w _)];rw [← hd] at hj ⊢;rw [List.length_map] at hj;simp [hj, ← uL]
 ·rw [h2];exact (Below.refl _ _).alloc (Nat.le_refl _) _
theorem aEy (l : List UInt8) : (sR l).2 = validD l := by
 unfold sR;split <;> simp [*]
theorem bHc (L : List (List UInt8)) (k : Nat) (h : k < L.length) : L.drop k = L.getD k [] :: L.drop (k + 1) := by
 rw [List.drop_eq_getElem_cons h];simp [h]
theorem aEo : ∀ (t cur : List UInt8), (cP cur t).length ≤ t.length + 1
 | [], cur => by simp [cP]
 | b :: t, cur => by
  unfold cP;split
  ·have := aEo t [];simp only [List.length_cons]; omega
  ·have := aEo t (cur ++ [b]);simp only [List.length_cons]; omega
theorem aEp : ∀ (t cur : List UInt8), ∀ x ∈ cP cur t, x.length ≤ cur.length + t.length
 | [], cur => by simp [cP]
 | b :: t, cur => by
  unfold cP;split
  ·intro x hx;rcases List.mem_cons.1 hx with rfl | hx
   ·simp
   ·have := aEp t [] x hx;simp only [List.length_cons, List.length_nil] at this ⊢;omega
  ·intro x hx;have := aEp t _ x hx;simp only [List.length_append, List.length_cons, List.length_nil] at this ⊢;omega
set_option maxRecDepth 100000 in
set_option maxHeartbeats 1000000 in
theorem bHw (l : List UInt8) (hs : l.length ≤ 1000000) (w : World) (hm : HasMax w) :
  Calls Tryz.prog 87 #[.string (bs l)] w fun e w' => ∃ v, e = .returned (.tuple #[v, .int .i64 ((ofL l).2.1 : Nat), .int .i64 ((ofL l).2.2 : Nat)]) ∧ bF w' v (ofL l).1 ∧ Below w.heap.size w w' := by
 by_cases hlong : 65536 < l.length
 ·have e : ofL l = ([], 0, 6) := if_pos hlong;rw [e];clear e;go_enter Tryz.func87, Tryz.ntmps87;go_wp2_with fail
  go_ret3
  exact ⟨_, rfl, mT _, Below.refl _ _⟩
 ·by_cases hnil : l = []
  ·subst hnil;have e : ofL [] = ([], 0, 0) := rfl;rw [e];clear e hlong;go_enter Tryz.func87, Tryz.ntmps87;go_wp2_with fail
   go_ret3
   exact ⟨_, rfl, mT _, Below.refl _ _⟩
  ·have e0 : (l == []) = false := beq_eq_false_iff_ne.2 hnil;have hll := aPa l hnil;have hle := trimSuffix_le l [10];have HT := lhid (aFl l [10] (by omega));have HS := lhid (bAj (trimSuffix l [10]) (by omega));have hmem := aEp (trimSuffix l [10]) [];have hcnt := aEo (trimSuffix l [10]) [];rw [hll] at HS hmem hcnt;obtain ⟨M, hM⟩ : ∃ M, pR l = M := ⟨_, rfl⟩;have e : ofL l = mZ (pR l) 0 (pR l) := if_neg hlong;rw [e];rw [hM] at HS hmem hcnt ⊢;obtain ⟨R, hR⟩ : ∃ R, mZ M 0 M = R := ⟨_, rfl⟩;rw [hR];have HR := lhid hR;have HE := lhid (fun x hx => Nat.le_trans (hmem x hx) (show ([] : List UInt8).length + (trimSuffix l [10]).length ≤ 1000000 by simp only [List.length_nil]; omega));generalize trimSuffix l [10] = t at *;have HM := lhid hm;have hM2 : M.length ≤ 1000001 := (by omega);clear hR hll e hM hmem hcnt hle hm hnil;go_enter Tryz.func87, Tryz.ntmps87;(go_wp2_with fail);refine (HT.out _).mono ?_;rintro e w' ⟨rfl, rfl⟩;(go_wp2_with fail);refine (HS.out _ HM.out).mono ?_;rintro e w1 ⟨rfl, ht, hb1⟩;have HX := lhid ht;clear ht;go_wp2_with fail
   go_loopw [20] (fun i wr => ∃ k : Nat, k ≤ M.length ∧ i = .int .i64 k ∧ Below w1.heap.size w1 wr ∧ mZ M k (M.drop k) = R) (fun i _ => M.length - (RowKit.intOf i).toNat)
   case atStart => exact ⟨0, Nat.zero_le _, rfl, Below.refl _ _, HR.out⟩
   case round =>
    obtain ⟨k, hk, rfl, hbr, hr⟩ := hrel;by_cases hlt : k < M.length
    ·obtain ⟨g, hg, hc⟩ := HX.out k hlt;obtain rfl : w.heap.size = g := (by simpa using hg);have hc' := cell_later hbr hc;rw [bHc M k hlt] at hr;simp only [mZ] at hr
     have hx := HE.out (M.getD k []) (by
      have : M.getD k [] = M[k] := (by simp [hlt]);rw [this]
      exact List.getElem_mem hlt)
     obtain ⟨x, hx'⟩ : ∃ x, M.getD k [] = x := ⟨_, rfl⟩;rw [hx'] at hr hc' hx;have HC := lhid (aDp x hx);have hv := aEy x;generalize sR x = N at *;obtain ⟨N1, N2⟩ := N;simp only at HC hv;subst hv;clear hc hg hx' hx;by_cases hval : validD x = true
     ·rw [if_pos hval] at hr;rw [hval] at HC;have H2 := lhid hr;clear hr hval;(go_wp2_with fail);refine (HC.out _).mono ?_;rintro e w2 ⟨rfl, hb2⟩;(go_wp2_with fail);go_roundw
      case rel => exact ⟨k + 1, by omega, by go_num, aB hbr hb2, H2.out⟩
      case measure => simp [RowKit.intOf]; omega
     ·rw [if_neg hval] at hr;have hval' : validD x = false := (by simpa using hval);rw [hval'] at HC;have H2 := lhid hr;clear hr hval hval';(go_wp2_with fail);refine (HC.out _).mono ?_;rintro e w2 ⟨rfl, hb2⟩;go_wp2_with fail
      go_ret3
      rw [← H2.out];exact ⟨_, rfl, mT _, aB hb1 (aB hbr hb2)⟩
    ·have ek : k = M.length := (by omega);subst ek;rw [List.drop_eq_nil_of_le (Nat.le_refl _)] at hr;have H2 := lhid hr;clear hr;go_wp2_with fail
     go_ret3
     rw [← H2.out];exact ⟨_, rfl, ⟨_, _, rfl, HX.out.below hbr⟩, aB hb1 hbr⟩
def aLx (l : List UInt8) (f i : Nat) : List UInt8 := (l.drop f).take (i - f)
theorem bCc (l : List UInt8) (f i : Nat) : (aLx l f i).length ≤ l.length := by
 unfold aLx;rw [List.length_take, List.length_drop];omega
end Go.Proofs.YtdfegfagedeilaaGreatDoor

namespace Go.Proofs.YtdfegfagedeilaaGreatDoor
open Go.Lib
def mO (c : Nat) : Bool := decide (c = 9) || decide (c = 13) || decide (c = 32)
def mN (b : UInt8) : Bool := mO b.toNat
theorem aBs (b : UInt8) (h : mN b = true) : b.toNat < 128 := by
 unfold mN mO at h;simp only [Bool.or_eq_true, decide_eq_true_eq] at h;omega
theorem zP (c : Nat) (h : 128 ≤ c) : mO c = false := by
 unfold mO;simp only [Bool.or_eq_false_iff, decide_eq_false_iff_not];omega
theorem aWu (n b0 b1 b2 b3 : Nat) (h : 128 ≤ b0) : 128 ≤ (decodeN n b0 b1 b2 b3).1 := by
 unfold decodeN;(repeat' split);all_goals (simp only; omega)
theorem aHc (b : UInt8) (t : List UInt8) : mO (decodeL (b :: t)).1 = mN b ∧ (mN b = true → (decodeL (b :: t)).2 = 1) := by
 by_cases h : b.toNat < 128
 ·rw [decodeL_ascii b t h];exact ⟨rfl, fun _ => rfl⟩
 ·have h2 := aWu (b :: t).length ((b :: t).getD 0 0).toNat ((b :: t).getD 1 0).toNat ((b :: t).getD 2 0).toNat ((b :: t).getD 3 0).toNat (by simp only [List.getD_cons_zero]; omega);rw [← decodeL_N] at h2;rw [zP _ h2];refine ⟨(zP _ (by omega)).symm, fun hb => absurd (aBs b hb) h⟩
def bAk (l : List UInt8) : List UInt8 := l.dropWhile mN
theorem bAl (b : UInt8) (t : List UInt8) : bAk (b :: t) = if mN b then bAk t else b :: t := by
 unfold bAk;rw [List.dropWhile_cons]
theorem uM (l : List UInt8) : (bs l).data.toList = l := by simp [bs]
theorem aMq (l : List UInt8) : ∀ (f p : Nat), p ≤ l.length → l.length - p ≤ f →
  (bAk (l.drop p) = [] ∧ idxFuncFrom mO false (bs l) f p = -1) ∨ (∃ q : Nat, p ≤ q ∧ q < l.length ∧ idxFuncFrom mO false (bs l) f p = q ∧ bAk (l.drop p) = l.drop q)
 | 0, p, hp, hf => by
  have e : l.drop p = [] := List.drop_eq_nil_of_le (by omega);rw [e];exact .inl ⟨rfl, rfl⟩
 | f + 1, p, hp, hf => by
  unfold idxFuncFrom;rw [gG];by_cases h : p < l.length
  ·rw [if_pos h, ← decodeL_drop, uM];have e : l.drop p = l[p] :: l.drop (p + 1) := List.drop_eq_getElem_cons h;rw [e];obtain ⟨h1, h2⟩ := aHc l[p] (l.drop (p + 1));rw [h1, bAl];by_cases hb : mN l[p] = true
   ·rw [h2 hb, hb];simp only [if_true, Bool.true_eq_false, if_false];rcases aMq l f (p + 1) (by omega) (by omega) with ⟨h3, h4⟩ | ⟨q, h3, h4, h5, h6⟩
    ·exact .inl ⟨h3, h4⟩
    ·exact .inr ⟨q, by omega, h4, h5, h6⟩
   ·rw [if_neg hb];have hb' : mN l[p] = false := (by simpa using hb);rw [hb'];simp only [if_true];exact .inr ⟨p, Nat.le_refl _, h, rfl, e.symm⟩
  ·rw [if_neg h];have e : l.drop p = [] := List.drop_eq_nil_of_le (by omega);rw [e];exact .inl ⟨rfl, rfl⟩
theorem left_eq (l : List UInt8) : trimLeftF mO (bs l) = bs (bAk l) := by
 unfold trimLeftF idxFunc;rcases aMq l (bs l).size 0 (Nat.zero_le _) (by rw [gG]; omega) with ⟨h1, h2⟩ | ⟨q, -, h2, h3, h4⟩
 ·rw [h2, if_pos rfl];rw [List.drop_zero] at h1;rw [h1];rfl
 ·rw [h3, if_neg (by omega)];rw [List.drop_zero] at h4;rw [h4, aBv, gG, show ((q : Int)).toNat = q by omega, List.take_of_length_le (by rw [List.length_drop]; omega)]
end Go.Proofs.YtdfegfagedeilaaGreatDoor

namespace Go.Proofs.YtdfegfagedeilaaGreatDoor
open Go.RowKit Go.Lib
def aBx : Nat → List UInt8 → Nat → Int → Nat
 | 0, _, _, _ => 0
 | f + 1, l, p, at' => if p < l.length ∧ (p : Int) < at' then 1 + aBx f l (p + (bH l p).2) at' else 0
def yD (l : List UInt8) (p : Nat) (at' : Int) : Nat := aBx (l.length - p) l p at'
theorem aBy (l : List UInt8) (at' : Int) : ∀ (f g p : Nat), l.length - p ≤ f → l.length - p ≤ g → aBx f l p at' = aBx g l p at'
 | 0, 0, _, _, _ => rfl
 | 0, g + 1, p, hf, _ => by
  unfold aBx;rw [if_neg (by omega)]
 | f + 1, 0, p, _, hg => by
  unfold aBx;rw [if_neg (by omega)]
 | f + 1, g + 1, p, hf, hg => by
  unfold aBx;by_cases h : p < l.length ∧ (p : Int) < at'
  ·have hb := kS l p h.1;rw [if_pos h, if_pos h, aBy l at' f g (p + (bH l p).2) (by omega) (by omega)]
  ·rw [if_neg h, if_neg h]
theorem aLw (l : List UInt8) (p : Nat) (at' : Int) (hp : p < l.length) : yD l p at' = if (p : Int) < at' then 1 + yD l (p + (bH l p).2) at' else 0 := by
 have hb := kS l p hp;unfold yD;obtain ⟨f, hf⟩ : ∃ f, l.length - p = f + 1 := ⟨l.length - p - 1, by omega⟩;rw [hf];by_cases h : (p : Int) < at'
 ·rw [if_pos h];show (if p < l.length ∧ (p : Int) < at' then _ else _) = _;rw [if_pos ⟨hp, h⟩, aBy l at' f _ (p + (bH l p).2) (by omega) (Nat.le_refl _)]
 ·rw [if_neg h];show (if p < l.length ∧ (p : Int) < at' then _ else _) = _;rw [if_neg (fun x => h x.2)]
theorem bHa (l : List UInt8) (p : Nat) (at' : Int) (hp : l.length ≤ p) : yD l p at' = 0 := by
 unfold yD;rw [show l.length - p = 0 by omega];rfl
theorem bBz (l : List UInt8) (p : Nat) (at' : Int) (h : at' ≤ (p : Int)) : yD l p at' = 0 := by
 by_cases hp : p < l.length
 ·rw [aLw l p at' hp, if_neg (by omega)]
 ·exact bHa l p at' (by omega)
end Go.Proofs.YtdfegfagedeilaaGreatDoor

namespace Go.Proofs.YtdfegfagedeilaaGreatDoor
open Go.Lib
theorem bCg (l : List UInt8) (j : Nat) (hj : 1 ≤ j) (h : j < (decodeL l).2) : 128 ≤ (l.getD j 0).toNat := by
 rw [decodeL_N] at h;generalize (l.getD 0 0).toNat = b0 at h;generalize h1 : (l.getD 1 0).toNat = b1 at h;generalize h2 : (l.getD 2 0).toNat = b2 at h;generalize h3 : (l.getD 3 0).toNat = b3 at h
 have hj3 : j = 1 ∨ j = 2 ∨ j = 3 := by
  have : (decodeN l.length b0 b1 b2 b3).2 ≤ 4 := by
   unfold decodeN;(repeat' split);all_goals simp
  omega
 unfold decodeN at h;split at h
 ·simp only at h; omega
 ·split at h
  ·rename_i hc;split at h
   ·simp only at h;obtain rfl : j = 1 := (by omega);rw [h1]; omega
   ·simp only at h; omega
  ·split at h
   ·rename_i hc;split at h
    ·simp only at h;rcases (show j = 1 ∨ j = 2 by omega) with rfl | rfl
     ·rw [h1]; omega
     ·rw [h2]; omega
    ·simp only at h; omega
   ·split at h
    ·rename_i hc;split at h
     ·simp only at h;rcases hj3 with rfl | rfl | rfl
      ·rw [h1]; omega
      ·rw [h2]; omega
      ·rw [h3]; omega
     ·simp only at h; omega
    ·simp only at h; omega
def jV (l : List UInt8) : Nat → Nat → Option Nat → List (Nat × Nat)
 | 0, _, none => []
 | 0, i, some f => [(f, i)]
 | n + 1, i, fr => if mN (l.getD i 0) then (match fr with | some f => (f, i) :: jV l n (i + 1) none | none => jV l n (i + 1) none) else jV l n (i + 1) (some (fr.getD i))
def bNj : Option Nat → Nat → List (Nat × Nat)
 | some f, i => [(f, i)]
 | none, _ => []
def bKb (l : List UInt8) : List (Nat × Nat) := jV l l.length 0 none
theorem aTl (l : List UInt8) (i : Nat) (fr : Option Nat) (hi : i < l.length) (hb : mN l[i] = true) :
  jV l (l.length - i) i fr = bNj fr i ++ jV l (l.length - (i + 1)) (i + 1) none := by
 rw [show l.length - i = (l.length - (i + 1)) + 1 by omega]
 conv => lhs; unfold jV
 rw [kU l i hi, if_pos hb];cases fr <;> rfl
theorem aVs (l : List UInt8) (i : Nat) (fr : Option Nat) (hi : i < l.length) (hb : mN l[i] = false) :
  jV l (l.length - i) i fr = jV l (l.length - (i + 1)) (i + 1) (some (fr.getD i)) := by
 rw [show l.length - i = (l.length - (i + 1)) + 1 by omega]
 conv => lhs; unfold jV
 rw [kU l i hi, hb];rfl
theorem bFg (l : List UInt8) (i : Nat) (fr : Option Nat) (hi : l.length ≤ i) : jV l (l.length - i) i fr = bNj fr i := by
 rw [show l.length - i = 0 by omega];cases fr <;> rfl
theorem aIt (l : List UInt8) (f : Nat) : ∀ (k i : Nat), i + k ≤ l.length → (∀ j, j < k → mN (l.getD (i + j) 0) = false) → jV l (l.length - i) i (some f) = jV l (l.length - (i + k)) (i + k) (some f)
 | 0, i, _, _ => rfl
 | k + 1, i, hk, hb => by
  have h0 := hb 0 (by omega);rw [Nat.add_zero, kU l i (by omega)] at h0;rw [aVs l i (some f) (by omega) h0];show jV l (l.length - (i + 1)) (i + 1) (some f) = _;rw [aIt l f k (i + 1) (by omega) (fun j hj => by have := hb (j + 1) (by omega); rwa [show i + (j + 1) = i + 1 + j by omega] at this), show i + 1 + k = i + (k + 1) by omega]
theorem bAc (l : List UInt8) (p : Nat) (fr : Option Nat) (hp : p < l.length) :
  (mO (bH l p).1 = true → jV l (l.length - p) p fr = bNj fr p ++ jV l (l.length - (p + (bH l p).2)) (p + (bH l p).2) none) ∧
  (mO (bH l p).1 = false → jV l (l.length - p) p fr = jV l (l.length - (p + (bH l p).2)) (p + (bH l p).2) (some (fr.getD p))) := by
 have e : l.drop p = l[p] :: l.drop (p + 1) := List.drop_eq_getElem_cons hp;have eo : bH l p = decodeL (l.drop p) := rfl;have hb := kS l p hp;obtain ⟨h1, h2⟩ := aHc l[p] (l.drop (p + 1));rw [← e, ← eo] at h1 h2;constructor
 ·intro h;rw [h1] at h;rw [h2 h];exact aTl l p fr hp h
 ·intro h;rw [h1] at h;rw [aVs l p fr hp h, aIt l _ ((bH l p).2 - 1) (p + 1) (by omega) ?_, show p + 1 + ((bH l p).2 - 1) = p + (bH l p).2 by omega];intro j hj;have hc := bCg (l.drop p) (j + 1) (by omega) (by rw [← eo]; omega);rw [getD_dropU, show p + (j + 1) = p + 1 + j by omega] at hc
  cases hz : mN (l.getD (p + 1 + j) 0) with
  | true => have := aBs _ hz; omega
  | false => rfl
def wW (l : List UInt8) (p n : Nat) : Prop := ∀ at' : Int, (p : Int) ≤ at' → yD l 0 at' = n + yD l p at'
theorem aGv (l : List UInt8) : wW l 0 0 := fun _ _ => by omega
theorem aKp (l : List UInt8) (p n : Nat) (hp : p < l.length) (h : wW l p n) : wW l (p + (bH l p).2) (n + 1) := fun at' hat => by
 have hb := kS l p hp;have := h at' (by omega);rw [aLw l p at' hp, if_pos (by omega)] at this;omega
theorem aOx (l : List UInt8) (p n : Nat) (h : wW l p n) : yD l 0 p = n := by
 have := h p (Int.le_refl _);rw [bBz l p p (Int.le_refl _)] at this;omega
def aFv (l : List UInt8) (r : Nat × Nat) : List UInt8 × Nat := (aLx l r.1 r.2, yD l 0 r.1 + 1)
def aFw (l : List UInt8) : List (List UInt8 × Nat) := (bKb l).map (aFv l)
def dD (s : List UInt8) : List UInt8 := s.takeWhile (fun b => decide (b ≠ 35))
theorem xZ (s : List UInt8) : dD s = s ∨ ∃ y, s = dD s ++ 35 :: y := by
 unfold dD;have h := List.takeWhile_append_dropWhile (p := fun b : UInt8 => decide (b ≠ 35)) (l := s)
 cases hd : s.dropWhile (fun b => decide (b ≠ 35)) with
 | nil => left; rw [hd, List.append_nil] at h; exact h
 | cons b y =>
  right
  have hb : b = 35 := by
   have := List.head?_dropWhile_not (fun b : UInt8 => decide (b ≠ 35)) s;rw [hd] at this;simpa using this
  rw [hd, hb] at h;exact ⟨y, h.symm⟩
theorem aWb (s : List UInt8) : (dD s).length ≤ s.length := by
 rcases xZ s with h | ⟨y, h⟩
 ·rw [h]; exact Nat.le_refl _
 ·conv => rhs; rw [h]
  rw [List.length_append];omega
end Go.Proofs.YtdfegfagedeilaaGreatDoor

namespace Go.Proofs
open Go.Shelf
def Tryz.laysContains_ren : Go.Shelf.Ren := ⟨fun | 144 => 131 | 143 => 156 | 219 => 172 | 217 => 179 | 225 => 180 | 224 => 181 | 267 => 182 | 266 => 192 | 314 => 193 | n => n, fun | 9 => 9 | 4 => 4 | 3 => 3 | 5 => 5 | 46 => 171 | 146 => 228 | 51 => 197 | n => n, fun | 1 => 3 | n => n⟩
theorem Tryz.laysContains : Go.Proofs.Lays.n144 Tryz.prog Tryz.laysContains_ren := {
 mixed := by kernel_rfl
 f143 := Tryz.func156.trans (congrArg some (by kernel_rfl))
 f144 := Tryz.func131.trans (congrArg some (by kernel_rfl))
 f217 := Tryz.func179.trans (congrArg some (by kernel_rfl))
 f219 := Tryz.func172.trans (congrArg some (by kernel_rfl))
 f224 := Tryz.func181.trans (congrArg some (by kernel_rfl))
 f225 := Tryz.func180.trans (congrArg some (by kernel_rfl))
 f266 := Tryz.func192.trans (congrArg some (by kernel_rfl))
 f267 := Tryz.func182.trans (congrArg some (by kernel_rfl))
 f314 := Tryz.func193.trans (congrArg some (by kernel_rfl))
 t3 := Tryz.underlying3
 a3 := Tryz.isAgg3
 z3 := Tryz.sizeOf3
 v3 := Tryz.zeroValue3
 t4 := Tryz.underlying4
 a4 := Tryz.isAgg4
 z4 := Tryz.sizeOf4
 v4 := Tryz.zeroValue4
 t5 := Tryz.underlying5
 a5 := Tryz.isAgg5
 z5 := Tryz.sizeOf5
 v5 := Tryz.zeroValue5
 t9 := Tryz.underlying9
 a9 := Tryz.isAgg9
 z9 := Tryz.sizeOf9
 v9 := Tryz.zeroValue9
 t46 := Tryz.underlying171
 a46 := Tryz.isAgg171
 z46 := Tryz.sizeOf171
 v46 := Tryz.zeroValue171
 t51 := Tryz.underlying197
 a51 := Tryz.isAgg197
 z51 := Tryz.sizeOf197
 v51 := Tryz.zeroValue197
 t146 := Tryz.underlying228
 a146 := Tryz.isAgg228
 z146 := Tryz.sizeOf228
 v146 := Tryz.zeroValue228
 g1 := by kernel_rfl }
def Tryz.laysCut_ren : Go.Shelf.Ren := ⟨fun | 145 => 132 | 220 => 159 | 219 => 172 | 217 => 179 | 225 => 180 | 224 => 181 | 267 => 182 | 266 => 192 | 314 => 193 | n => n, fun | 9 => 9 | 4 => 4 | 59 => 175 | 3 => 3 | 5 => 5 | 46 => 171 | 146 => 228 | 51 => 197 | n => n, fun | 1 => 3 | n => n⟩
theorem Tryz.laysCut : Go.Proofs.Lays.n145 Tryz.prog Tryz.laysCut_ren := {
 mixed := by kernel_rfl
 f145 := Tryz.func132.trans (congrArg some (by kernel_rfl))
 f217 := Tryz.func179.trans (congrArg some (by kernel_rfl))
 f219 := Tryz.func172.trans (congrArg some (by kernel_rfl))
 f220 := Tryz.func159.trans (congrArg some (by kernel_rfl))
 f224 := Tryz.func181.trans (congrArg some (by kernel_rfl))
 f225 := Tryz.func180.trans (congrArg some (by kernel_rfl))
 f266 := Tryz.func192.trans (congrArg some (by kernel_rfl))
 f267 := Tryz.func182.trans (congrArg some (by kernel_rfl))
 f314 := Tryz.func193.trans (congrArg some (by kernel_rfl))
 t3 := Tryz.underlying3
 a3 := Tryz.isAgg3
 z3 := Tryz.sizeOf3
 v3 := Tryz.zeroValue3
 t4 := Tryz.underlying4
 a4 := Tryz.isAgg4
 z4 := Tryz.sizeOf4
 v4 := Tryz.zeroValue4
 t5 := Tryz.underlying5
 a5 := Tryz.isAgg5
 z5 := Tryz.sizeOf5
 v5 := Tryz.zeroValue5
 t9 := Tryz.underlying9
 a9 := Tryz.isAgg9
 z9 := Tryz.sizeOf9
 v9 := Tryz.zeroValue9
 t46 := Tryz.underlying171
 a46 := Tryz.isAgg171
 z46 := Tryz.sizeOf171
 v46 := Tryz.zeroValue171
 t51 := Tryz.underlying197
 a51 := Tryz.isAgg197
 z51 := Tryz.sizeOf197
 v51 := Tryz.zeroValue197
 t59 := Tryz.underlying175
 a59 := Tryz.isAgg175
 z59 := Tryz.sizeOf175
 v59 := Tryz.zeroValue175
 t146 := Tryz.underlying228
 a146 := Tryz.isAgg228
 z146 := Tryz.sizeOf228
 v146 := Tryz.zeroValue228
 g1 := by kernel_rfl }
end Go.Proofs

namespace Go.Proofs.YtdfegfagedeilaaGreatDoor
open Go.RowKit Go.Lib
def bNa (l : List UInt8) (i : Nat) : Option Nat → List UInt8
 | some f => aLx l f i
 | none => []
end Go.Proofs.YtdfegfagedeilaaGreatDoor

namespace Go.Proofs.YtdfegfagedeilaaGreatDoor
open Go.RowKit
theorem aJn (t : Nat) (w : World) (h : t = 2 ∨ t = 3) : (Instr.typeAssert .nilIface 20 t true).run Tryz.prog w = .ok (.tuple #[.int .i64 0, .bool false]) w := by
 rcases h with rfl | rfl <;> kernel_rfl
theorem oU (w : World) : (Instr.typeAssert .nilIface 20 166 true).run Tryz.prog w = .ok (.tuple #[.agg #[], .bool false]) w := by kernel_rfl
theorem wY (v : Value) (w : World) : (Instr.typeAssert (.iface 2 v) 20 2 true).run Tryz.prog w = .ok (.tuple #[v, .bool true]) w := by kernel_rfl
theorem pG (v : Value) (w : World) : (Instr.typeAssert (.iface 2 v) 20 2 false).run Tryz.prog w = .ok v w := by kernel_rfl
theorem aQk (v : Value) (w : World) : (Instr.typeAssert (.iface 3 v) 20 3 true).run Tryz.prog w = .ok (.tuple #[v, .bool true]) w := by kernel_rfl
theorem aAw (v : Value) (w : World) : (Instr.typeAssert (.iface 166 v) 20 166 true).run Tryz.prog w = .ok (.tuple #[v, .bool true]) w := by kernel_rfl
theorem aUk (w : World) : ((do pure (Value.tuple #[← zeroValue 2, .bool false])) : Sem Value).run Tryz.prog w = .ok (.tuple #[.int .i64 0, .bool false]) w := by kernel_rfl
theorem bGk (w : World) : ((do pure (Value.tuple #[← zeroValue 3, .bool false])) : Sem Value).run Tryz.prog w = .ok (.tuple #[.int .i64 0, .bool false]) w := by kernel_rfl
theorem bBk (w : World) : ((do pure (Value.tuple #[← zeroValue 166, .bool false])) : Sem Value).run Tryz.prog w = .ok (.tuple #[.agg #[], .bool false]) w := by kernel_rfl
theorem oT (u : TypeId) (v : Value) (w : World) (h : (u == 2) = false) : (Instr.typeAssert (.iface u v) 20 2 true).run Tryz.prog w = .ok (.tuple #[.int .i64 0, .bool false]) w := by
 have e : (Instr.typeAssert (.iface u v) 20 2 true).run Tryz.prog w = (if u = 2 then (pure (Value.tuple #[v, .bool true]) : Sem Value) else (do pure (Value.tuple #[← zeroValue 2, .bool false]))).run Tryz.prog w := by kernel_rfl
 rw [e, if_neg (by simpa using h)]; exact aUk w
theorem yA (u : TypeId) (v : Value) (w : World) (h : (u == 3) = false) : (Instr.typeAssert (.iface u v) 20 3 true).run Tryz.prog w = .ok (.tuple #[.int .i64 0, .bool false]) w := by
 have e : (Instr.typeAssert (.iface u v) 20 3 true).run Tryz.prog w = (if u = 3 then (pure (Value.tuple #[v, .bool true]) : Sem Value) else (do pure (Value.tuple #[← zeroValue 3, .bool false]))).run Tryz.prog w := by kernel_rfl
 rw [e, if_neg (by simpa using h)]; exact bGk w
theorem qZ (u : TypeId) (v : Value) (w : World) (h : (u == 166) = false) : (Instr.typeAssert (.iface u v) 20 166 true).run Tryz.prog w = .ok (.tuple #[.agg #[], .bool false]) w := by
 have e : (Instr.typeAssert (.iface u v) 20 166 true).run Tryz.prog w = (if u = 166 then (pure (Value.tuple #[v, .bool true]) : Sem Value) else (do pure (Value.tuple #[← zeroValue 166, .bool false]))).run Tryz.prog w := by kernel_rfl
 rw [e, if_neg (by simpa using h)]; exact bBk w
end Go.Proofs.YtdfegfagedeilaaGreatDoor

namespace Go.Proofs.YtdfegfagedeilaaGreatDoor
def nH (c : UInt8) : Bool := 48 ≤ c.toNat && c.toNat ≤ 57
def aQv (t : List UInt8) (neg : Bool) : Bool := !t.isEmpty && !(t.head? == some 48 && (neg || decide (1 < t.length))) && t.all nH
def pU (s : List UInt8) : Bool := s.head? == some 45
def mC (s : List UInt8) : List UInt8 := if pU s then s.tail else s
def yG (s : List UInt8) : Bool := aQv (mC s) (pU s)
def xP (acc : Option Int) (c : UInt8) : Option Int := acc.bind fun n =>
 if n < -922337203685477580 ∨ (n = -922337203685477580 ∧ (8 : Int) < (c.toNat - 48 : Nat)) then none else some (n * 10 - (c.toNat - 48 : Nat))
def mK (t : List UInt8) : Option Int := t.foldl xP (some 0)
def jQ (s : List UInt8) : Int × Int :=
 if yG s then
  match mK (mC s) with
  | none => (0, 8)
  | some n => if pU s then (n, 0) else if n = -9223372036854775808 then (0, 8) else (-n, 0)
 else (0, 5)
theorem aRc (t : List UInt8) (c : UInt8) : mK (t ++ [c]) = xP (mK t) c := by simp [mK]
theorem uS (c : UInt8) : nH c = true ↔ 48 ≤ c.toNat ∧ c.toNat ≤ 57 := by simp [nH]
end Go.Proofs.YtdfegfagedeilaaGreatDoor

namespace Go.Proofs.YtdfegfagedeilaaGreatDoor
open Go.RowKit
set_option maxHeartbeats 400000 in
theorem bCd (l : List UInt8) (hs : l.length ≤ 9223372036854775807) (w : World) :
  Calls Tryz.prog 174 #[.string (bs l), .string ⟨#[45]⟩] w fun e w' => e = .returned (.tuple #[.string (bs (mC l)), .bool (pU l)]) ∧ w = w' := by
 cases l with
 | nil =>
  go_enter Tryz.func174, Tryz.ntmps174
  go_wp2
  go_ret2
  exact ⟨rfl, rfl⟩
 | cons a l =>
  by_cases h : a = 45
  ·subst h;simp only [List.length_cons] at hs;go_enter Tryz.func174, Tryz.ntmps174
   go_wp2
   go_ret2
   exact ⟨by simp [mC, pU], rfl⟩
  ·have h' : (a == 45) = false := (by simpa using h);simp only [List.length_cons] at hs;go_enter Tryz.func174, Tryz.ntmps174
   go_wp2
   go_ret2
   exact ⟨by simp [mC, pU, h'], rfl⟩
theorem aCj (l t : List UInt8) (neg : Bool) (ht : mC l = t) (hn : pU l = neg) (hs : l.length ≤ 9223372036854775807) (w : World) :
  Calls Tryz.prog 174 #[.string (bs l), .string ⟨#[45]⟩] w fun e w' => e = .returned (.tuple #[.string (bs t), .bool neg]) ∧ w = w' := by
 subst ht; subst hn; exact bCd l hs w
theorem aFz (t : List UInt8) (k : Nat) (hk : k < t.length) (h : (t.take k).all nH = true) (hd : nH t[k] = true) : (t.take (k + 1)).all nH = true := by
 rw [List.take_succ_eq_append_getElem hk, List.all_append, h]; simp [hd]
theorem bIb (t : List UInt8) (k : Nat) (hk : k < t.length) (hd : nH t[k] = false) : t.all nH = false := by
 rw [List.all_eq_false]; exact ⟨t[k], List.getElem_mem hk, by simp [hd]⟩
theorem aOu {a b : Bool} (h : a = b) : Ending.returned (.bool a) = .returned (.bool b) := by rw [h]
theorem bMt (a b : UInt8) : ((a.toNat : Int) == (b.toNat : Int)) = (a == b) := by
 rw [Bool.eq_iff_iff]; simp only [beq_iff_eq, ← UInt8.toNat_inj]; omega
set_option maxHeartbeats 1000000 in
theorem aQx (l : List UInt8) (a : UInt8) (r : List UInt8) (neg : Bool) (ht : mC l = a :: r) (hn : pU l = neg) (hs : l.length ≤ 9223372036854775807) (hr : r.length + 1 ≤ 9223372036854775807)
  (hc : (a == 48) = false) (res : Bool) (hres : (a :: r).all nH = res) (w : World) :
  Calls Tryz.prog 173 #[.string (bs l)] w fun e w' => e = .returned (.bool res) ∧ w = w' := by
 have HR := lhid hres;clear hres;have HC := lhid (aCj l (a :: r) neg ht hn hs);clear ht hn hs;have ha : ((a.toNat : Int) == 48) = false := (by rw [← hc]; exact bMt a 48);go_enter Tryz.func173, Tryz.ntmps173;(go_wp2_with (go_at_call 174; refine (HC.out _).mono ?_; rintro e w1 ⟨rfl, rfl⟩));clear HC ha hc;have e1 : ((r.length : Int) + 1) = ((a :: r).length : Int) := (by simp);have e2 : (a :: r).length ≤ 9223372036854775807 := (by simpa using hr);rw [e1];clear e1 hr;generalize a :: r = t at *
 go_loop [5, 28] (fun _ i => ∃ k : Nat, k ≤ t.length ∧ i = .int .i64 k ∧ (t.take k).all nH = true) (fun _ i => t.length - (RowKit.intOf i).toNat)
 case atStart => exact ⟨0, Nat.zero_le _, rfl, rfl⟩
 case round =>
  obtain ⟨k, hk, rfl, hall⟩ := hrel;have HA := lhid hall;clear hall;by_cases hlt : k < t.length
  ·by_cases hd : nH t[k] = true
   ·have HS := lhid (aFz t k hlt HA.out hd);have hd1 := ((uS _).1 hd).1;have hd2 := ((uS _).1 hd).2;clear hd
    go_wp2
    go_round
    case rel => exact ⟨k + 1, by omega, by go_num, HS.out⟩
    case measure => simp [RowKit.intOf]; omega
   ·have hf : nH t[k] = false := (by simpa using hd);have HF := lhid (bIb t k hlt hf)
    have hor : t[k].toNat < 48 ∨ (48 ≤ t[k].toNat ∧ 57 < t[k].toNat) := by
     have : ¬ (48 ≤ t[k].toNat ∧ t[k].toNat ≤ 57) := fun h => hd ((uS _).2 h);omega
    clear hd hf;rcases hor with h1 | ⟨h1, h2⟩
    all_goals
     go_wp2
     go_ret;exact ⟨aOu (HF.out.symm.trans HR.out), rfl⟩
  ·have e : t.take k = t := List.take_of_length_le (by omega);have HA' := HA.out;rw [e] at HA';have HB := lhid HA';clear HA HA' e
   go_wp2
   go_ret;exact ⟨aOu (HB.out.symm.trans HR.out), rfl⟩
set_option maxHeartbeats 1000000 in
theorem aMb (l : List UInt8) (ht : mC l = [48]) (hn : pU l = false) (hs : l.length ≤ 9223372036854775807) (w : World) :
  Calls Tryz.prog 173 #[.string (bs l)] w fun e w' => e = .returned (.bool true) ∧ w = w' := by
 have HC := lhid (aCj l [48] false ht hn hs);clear ht hn hs;go_enter Tryz.func173, Tryz.ntmps173;go_wp2_with (go_at_call 174; refine (HC.out _).mono ?_; rintro e w1 ⟨rfl, rfl⟩)
 go_rounds 2
 go_ret;exact ⟨rfl, rfl⟩
set_option maxHeartbeats 1000000 in
theorem aQw (l : List UInt8) (neg : Bool) (ht : mC l = []) (hn : pU l = neg) (hs : l.length ≤ 9223372036854775807) (w : World) :
  Calls Tryz.prog 173 #[.string (bs l)] w fun e w' => e = .returned (.bool false) ∧ w = w' := by
 have HC := lhid (aCj l [] neg ht hn hs);clear ht hn hs;go_enter Tryz.func173, Tryz.ntmps173;(go_wp2_with (go_at_call 174; refine (HC.out _).mono ?_; rintro e w1 ⟨rfl, rfl⟩));go_ret;exact ⟨rfl, rfl⟩
set_option maxHeartbeats 1000000 in
theorem aMa (l r : List UInt8) (neg : Bool) (ht : mC l = 48 :: r) (hn : pU l = neg) (hs : l.length ≤ 9223372036854775807) (hr : r.length + 1 ≤ 9223372036854775807) (hc : neg = true ∨ (neg = false ∧ 0 < r.length)) (w : World) :
  Calls Tryz.prog 173 #[.string (bs l)] w fun e w' => e = .returned (.bool false) ∧ w = w' := by
 have HC := lhid (aCj l (48 :: r) neg ht hn hs);clear ht hn hs;rcases hc with rfl | ⟨rfl, hc⟩
 all_goals
  go_enter Tryz.func173, Tryz.ntmps173;(go_wp2_with (go_at_call 174; refine (HC.out _).mono ?_; rintro e w1 ⟨rfl, rfl⟩));go_ret;exact ⟨rfl, rfl⟩
theorem aOt (l : List UInt8) : (mC l).length ≤ l.length := by unfold mC; split <;> simp
theorem aCk (l : List UInt8) (hs : l.length ≤ 9223372036854775807) (w : World) :
  Calls Tryz.prog 173 #[.string (bs l)] w fun e w' => e = .returned (.bool (yG l)) ∧ w = w' := by
 have hl := aOt l;unfold yG
 cases ht : mC l with
 | nil => exact aQw l _ ht rfl hs w
 | cons a r =>
  rw [ht] at hl;simp only [List.length_cons] at hl;by_cases ha : a = 48
  ·subst ha;by_cases hc : pU l = true ∨ 0 < r.length
   ·have e : aQv (48 :: r) (pU l) = false := by
     rcases hc with h | h <;> simp [aQv, h]
    rw [e];refine aMa l r _ ht rfl hs (by omega) ?_ w;cases hn : pU l
    ·rw [hn] at hc; exact .inr ⟨rfl, by simpa using hc⟩
    ·exact .inl rfl
   ·have hn : pU l = false := by
     cases h : pU l
     ·rfl
     ·exact absurd (.inl h) hc
    have hr : r = [] := List.eq_nil_of_length_eq_zero (by have : ¬ 0 < r.length := fun h => hc (.inr h)
                                                          omega)
    subst hr;rw [hn, show aQv [48] false = true from rfl];exact aMb l ht hn hs w
  ·have ha' : (a == 48) = false := by simpa using ha
   have e : aQv (a :: r) (pU l) = (a :: r).all nH := by
    unfold aQv;rw [List.head?_cons, show ((some a : Option UInt8) == some 48) = false by simpa using ha];simp
   rw [e];exact aQx l a r _ ht rfl hs (by omega) ha' _ rfl w
end Go.Proofs.YtdfegfagedeilaaGreatDoor

namespace Go.Proofs.YtdfegfagedeilaaGreatDoor
def bTt (h : aI) : Prop := ∀ t ∈ h.2.2, ∀ o ∈ t.2.2, -9223372036854775808 ≤ o.2.2.2 ∧ o.2.2.2 ≤ 9223372036854775807
end Go.Proofs.YtdfegfagedeilaaGreatDoor

namespace Go.Proofs
open Go.Shelf
def Tryz.laysValid_ren : Go.Shelf.Ren := ⟨fun | 196 => 117 | 259 => 139 | n => n, fun | 9 => 9 | 4 => 4 | 3 => 3 | 5 => 5 | 12 => 12 | 119 => 182 | 0 => 0 | 46 => 171 | 139 => 185 | 138 => 184 | 53 => 199 | n => n, fun | 3 => 1 | 4 => 2 | n => n⟩
theorem Tryz.laysValid : Go.Proofs.Lays.n196 Tryz.prog Tryz.laysValid_ren := {
 mixed := by kernel_rfl
 f196 := Tryz.func117.trans (congrArg some (by kernel_rfl))
 f259 := Tryz.func139.trans (congrArg some (by kernel_rfl))
 t0 := Tryz.underlying0
 a0 := Tryz.isAgg0
 z0 := Tryz.sizeOf0
 v0 := Tryz.zeroValue0
 t3 := Tryz.underlying3
 a3 := Tryz.isAgg3
 z3 := Tryz.sizeOf3
 v3 := Tryz.zeroValue3
 t4 := Tryz.underlying4
 a4 := Tryz.isAgg4
 z4 := Tryz.sizeOf4
 v4 := Tryz.zeroValue4
 t5 := Tryz.underlying5
 a5 := Tryz.isAgg5
 z5 := Tryz.sizeOf5
 v5 := Tryz.zeroValue5
 t9 := Tryz.underlying9
 a9 := Tryz.isAgg9
 z9 := Tryz.sizeOf9
 v9 := Tryz.zeroValue9
 t12 := Tryz.underlying12
 a12 := Tryz.isAgg12
 z12 := Tryz.sizeOf12
 v12 := Tryz.zeroValue12
 t46 := Tryz.underlying171
 a46 := Tryz.isAgg171
 z46 := Tryz.sizeOf171
 v46 := Tryz.zeroValue171
 t53 := Tryz.underlying199
 a53 := Tryz.isAgg199
 z53 := Tryz.sizeOf199
 v53 := Tryz.zeroValue199
 t119 := Tryz.underlying182
 a119 := Tryz.isAgg182
 z119 := Tryz.sizeOf182
 t138 := Tryz.underlying184
 a138 := Tryz.isAgg184
 z138 := Tryz.sizeOf184
 v138 := Tryz.zeroValue184
 t139 := Tryz.underlying185
 a139 := Tryz.isAgg185
 z139 := Tryz.sizeOf185
 v139 := Tryz.zeroValue185
 g3 := by kernel_rfl
 g4 := by kernel_rfl }
end Go.Proofs

namespace Go.Proofs.YtdfegfagedeilaaGreatDoor
open Go.RowKit
theorem aDx (w : World) (x : Int) (e : TypeId) : ∀ (j : Nat) (u : Value), ([.int .i64 x] : List Value)[j]? = some u → (w.alloc (.cells #[.int .i64 x] e)).cell? ((⟨w.heap.size, 0, none⟩ : Addr).add j) = some u := by
 intro j u hj
 match j, hj with
 | 0, hj => simp at hj; subst hj; simp [Addr.add]
theorem aEa (x : Int) : ∀ u ∈ ([.int .i64 x] : List Value), u.oneCell' = true := by
 intro u hu;simp at hu;subst hu;rfl
end Go.Proofs.YtdfegfagedeilaaGreatDoor
