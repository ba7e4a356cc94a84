/-
  Layer 1 (line) in plain words: a text's lines, in the program's way and in the reference's; no program in sight. No conditions.
  DERIVED: THE SHELF's CONTRACTS AT THIS DUMP, IN PLAIN WORDS (tools/lay-plain.mjs out of 'TrydShelfL4.lean', which tools/lay-shelf.mjs wrote): THE SAME DECLARATIONS UNDER THE SAME NAMES: 'import', 'namespace', 'open', 'def', 'theorem' AND NOTHING ELSE: no command of the shelf's: FOR A HAND-IN. Each laying: the table of numbers ('.._ren') and one theorem, a field a fact of the dump's own or the kernel's comparison; each contract: ONE APPLICATION.
  The walks of layer 1 (line): how many runes a text has, in the program and in its reference; whether two lists of texts are the same. No conditions.
  Slices of texts: what one holds, and the walk of the comparison of two. No conditions.
  The walks of layer 1 (line): a text's lines, in the program and in its reference. No conditions but that internal/bytealg.MaxLen holds a number.
  Layer 1 (line) in plain words: a text without blanks at its ends, as strings.TrimFunc goes and byte by byte; no program in sight. No conditions.
  The walks of layer 1 (line): the runes ahead of a byte, and a text without blanks, in the program and in its reference; the statement LineRunes. No conditions but that unicode/utf8's two tables are as their initialisers lay them and that internal/bytealg.MaxLen holds a number.
-/
import Derived.Test.YtmgchjddpmmglaaGreatDoorQAa
import Derived.Lib.SplitLaws
import Derived.Ground.NamesProg
import Derived.Shelf.LaysM
import Derived.Shelf.Strings.Prefix
import Derived.Shelf.Strings.Split
import Derived.Test.YtmgchjddpmmglaaGreatDoorProg
import Derived.Laws.RangeAny
import Derived.Shelf.GgClosure.StringsTrimFunc
namespace Go.Proofs.YtmgchjddpmmglaaGreatDoor
open Go.Lib
def linesAux : List UInt8 → List UInt8 → List (List UInt8)
 | cur, [] => if cur = [] then [] else [cur]
 | cur, b :: t => if b = 10 then cur :: linesAux [] t else linesAux (cur ++ [b]) t
def linesL (s : List UInt8) : List (List UInt8) := linesAux [] s
def partAux : List UInt8 → List UInt8 → List (List UInt8)
 | cur, [] => [cur]
 | cur, b :: t => if b = 10 then cur :: partAux [] t else partAux (cur ++ [b]) t
theorem index_cons_ne (b : UInt8) (l : List UInt8) (h : b ≠ 10) : index (b :: l) [10] = if index l [10] == -1 then -1 else index l [10] + 1 := by
 have hp : ([10] : List UInt8).isPrefixOf (b :: l) = false := by simp [List.isPrefixOf, Ne.symm h]
 rw [index, hp]
 simp
theorem split_part : ∀ s : List UInt8, ∃ h t, splitK [10] 0 (count s [10]) s = h :: t ∧ ∀ cur, partAux cur s = (cur ++ h) :: t
 | [] => ⟨[], [], by rw [count_miss (by simp [index])]; rfl, fun cur => by simp [partAux]⟩
 | b :: s => by
  obtain ⟨h, t, ih, ic⟩ := split_part s
  by_cases hb : b = 10
  ·subst hb
   have hi : index ((10 : UInt8) :: s) [10] = 0 := by rw [index]; simp [List.isPrefixOf]
   refine ⟨[], h :: t, ?_, fun cur => ?_⟩
   ·rw [count_cons_eq, Nat.add_comm 1]
    unfold splitK
    rw [hi, if_neg (by decide)]
    simp [ih]
   ·have := ic []
    simp only [partAux, if_pos]
    rw [this]
    simp
  ·rw [count_cons_ne b 10 s hb]
   have hx := index_cons_ne b s hb
   cases hk : count s [10] with
   | zero =>
    rw [hk] at ih
    refine ⟨b :: s, [], rfl, fun cur => ?_⟩
    simp only [splitK, List.cons.injEq] at ih
    obtain ⟨rfl, rfl⟩ := ih
    simp only [partAux, if_neg hb, ic]
    simp
   | succ k =>
    rw [hk] at ih
    obtain ⟨i, hi⟩ : ∃ i : Nat, index s [10] = i := by
     rcases index_spec s [10] with ⟨h1, -⟩ | ⟨i, h1, -⟩
     ·rw [count_miss h1] at hk; omega
     ·exact ⟨i, h1⟩
    have hm : ¬ ((i : Int) == -1) = true := fun e => by have := beq_iff_eq.1 e; omega
    rw [hi, if_neg hm] at hx
    have hm' : ¬ ((i : Int) + 1 == -1) = true := fun e => by have := beq_iff_eq.1 e; omega
    have e1 : ((i : Int)).toNat = i := by omega
    have e2 : ((i : Int) + 1).toNat = i + 1 := by omega
    unfold splitK at ih ⊢
    rw [hi, if_neg hm, e1] at ih
    rw [hx, if_neg hm', e2]
    simp only [List.cons.injEq] at ih
    obtain ⟨rfl, rfl⟩ := ih
    refine ⟨b :: List.take i s, splitK [10] 0 k (List.drop (i + 1) s), ?_, fun cur => ?_⟩
    ·simp only [List.length_cons, List.length_nil, Nat.add_zero, Nat.zero_add, List.take_succ_cons, List.drop_succ_cons]
    ·simp only [partAux, if_neg hb, ic]
     simp
theorem split_eq (s : List UInt8) : splitK [10] 0 (count s [10]) s = partAux [] s := by
 obtain ⟨h, t, h1, h2⟩ := split_part s
 rw [h1, h2]
 rfl
theorem lines_fed : ∀ (t cur : List UInt8), linesAux cur (t ++ [10]) = partAux cur t
 | [], cur => by simp [linesAux, partAux]
 | b :: t, cur => by
  simp only [List.cons_append, linesAux, partAux]
  rw [lines_fed t, lines_fed t]
theorem lines_bare : ∀ (s cur : List UInt8), (cur ≠ [] ∨ s ≠ []) → s.getLast? ≠ some 10 → linesAux cur s = partAux cur s
 | [], cur, h, _ => by
  have : cur ≠ [] := by simpa using h
  simp [linesAux, partAux, this]
 | [b], cur, _, hl => by
  have : ¬ b = 10 := by simpa using hl
  simp [linesAux, partAux, this]
 | b :: c :: t, cur, _, hl => by
  have hl' : (c :: t).getLast? ≠ some 10 := by simpa [List.getLast?_cons_cons] using hl
  simp only [linesAux, partAux]
  by_cases hb : b = 10
  ·rw [if_pos hb, if_pos hb]
   exact congrArg _ (lines_bare (c :: t) [] (.inr (by simp)) hl')
  ·rw [if_neg hb, if_neg hb]
   exact lines_bare (c :: t) _ (.inr (by simp)) hl'
theorem snoc_cases (s : List UInt8) : s = [] ∨ ∃ t b, s = t ++ [b] := by
 rcases List.eq_nil_or_concat s with h | ⟨t, b, h⟩
 ·exact .inl h
 ·exact .inr ⟨t, b, by simpa using h⟩
theorem suffix_snoc (t : List UInt8) (b : UInt8) : hasSuffix (t ++ [b]) [10] = decide (b = 10) := by
 unfold hasSuffix
 rw [Bool.eq_iff_iff]
 rw [List.isSuffixOf_iff_suffix]
 simp only [decide_eq_true_eq]
 constructor
 ·rintro ⟨u, hu⟩
  have := List.append_inj_right' hu rfl
  simpa using this.symm
 ·rintro rfl
  exact ⟨t, rfl⟩
theorem split_lines (s : List UInt8) (h : s ≠ []) : partAux [] (trimSuffix s [10]) = linesL s := by
 rcases snoc_cases s with h0 | ⟨t, b, rfl⟩
 ·exact absurd h0 h
 ·unfold trimSuffix linesL
  rw [suffix_snoc]
  by_cases hb : b = 10
  ·subst hb
   simp only [decide_true, if_true]
   rw [lines_fed]
   simp
  ·simp only [hb, decide_false]
   rw [lines_bare _ _ (.inr h) (by simpa using hb)]
   rfl
def resGo (full : List (List UInt8)) : Nat → List (List UInt8) → List (List UInt8) × Nat × Nat
 | _, [] => (full, 0, 0)
 | n, x :: r => if validD x then resGo full (n + 1) r else ([], n + 1, 5)
def ofL (s : List UInt8) : List (List UInt8) × Nat × Nat := if 65536 < s.length then ([], 0, 6) else resGo (linesL s) 0 (linesL s)
def refGo : List (List UInt8) → List UInt8 → List UInt8 → List (List UInt8) × Nat × Nat
 | out, cur, [] => if cur = [] then (out, 0, 0) else if validD cur then (out ++ [cur], 0, 0) else ([], out.length + 1, 5)
 | out, cur, b :: t => if b = 10 then (if validD cur then refGo (out ++ [cur]) [] t else ([], out.length + 1, 5)) else refGo out (cur ++ [b]) t
theorem ref_res : ∀ (t cur : List UInt8) (out : List (List UInt8)), refGo out cur t = resGo (out ++ linesAux cur t) out.length (linesAux cur t)
 | [], cur, out => by
  unfold refGo linesAux
  by_cases h : cur = []
  ·simp [h, resGo]
  ·rw [if_neg h, if_neg h]
   simp only [resGo]
 | b :: t, cur, out => by
  unfold refGo linesAux
  by_cases h : b = 10
  ·rw [if_pos h, if_pos h]
   simp only [resGo]
   by_cases hv : validD cur = true
   ·rw [if_pos hv, if_pos hv, ref_res t [] (out ++ [cur])]
    simp
   ·rw [if_neg hv, if_neg hv]
  ·rw [if_neg h, if_neg h]
   exact ref_res t _ out
theorem ref_of (s : List UInt8) : refGo [] [] s = resGo (linesL s) 0 (linesL s) := ref_res s [] []
theorem resGo_full (full : List (List UInt8)) : ∀ (n : Nat) (r : List (List UInt8)), (resGo full n r).2.2 = 0 → (resGo full n r).1 = full ∧ (resGo full n r).2.1 = 0
 | _, [], _ => ⟨rfl, rfl⟩
 | n, x :: r, h => by
  unfold resGo at h ⊢
  split at h
  ·rename_i hv
   rw [if_pos hv]
   exact resGo_full full (n + 1) r h
  ·simp at h
theorem resGo_bad (full : List (List UInt8)) : ∀ (n : Nat) (r : List (List UInt8)), (resGo full n r).2.2 ≠ 0 → (resGo full n r).1 = [] ∧ (resGo full n r).2.2 = 5
 | _, [], h => absurd rfl h
 | n, x :: r, h => by
  unfold resGo at h ⊢
  split at h
  ·rename_i hv
   rw [if_pos hv]
   exact resGo_bad full (n + 1) r h
  ·rename_i hv
   rw [if_neg hv]
   exact ⟨rfl, rfl⟩
theorem lines_len : ∀ (t cur : List UInt8), (linesAux cur t).length ≤ t.length + 1
 | [], cur => by
  unfold linesAux
  split <;> simp
 | b :: t, cur => by
  unfold linesAux
  split
  ·have := lines_len t []
   simp only [List.length_cons]; omega
  ·have := lines_len t (cur ++ [b])
   simp only [List.length_cons]; omega
def runesN (l : List UInt8) : Nat × Bool := if validD l then ((runesU l).length, true) else (0, false)
def runesFrom (l : List UInt8) (p n : Nat) : Nat × Bool := if validD (l.drop p) then (n + (runesU (l.drop p)).length, true) else (0, false)
theorem runesFrom_start (l : List UInt8) : runesFrom l 0 0 = runesN l := by simp [runesFrom, runesN]
theorem runesFrom_end (l : List UInt8) (p n : Nat) (h : l.length ≤ p) : runesFrom l p n = (n, true) := by
 unfold runesFrom
 rw [List.drop_eq_nil_of_le h]
 rfl
theorem one_bounds (l : List UInt8) (p : Nat) (hp : p < l.length) : 1 ≤ (oneAt l p).2 ∧ p + (oneAt l p).2 ≤ l.length := by
 have hne : l.drop p ≠ [] := by
  intro e
  have := congrArg List.length e
  simp at this
  omega
 have hw := decodeL_le' (l.drop p) hne
 rw [List.length_drop] at hw
 exact ⟨hw.1, by unfold oneAt; omega⟩
theorem runesFrom_step (l : List UInt8) (p n : Nat) (hp : p < l.length) :
  runesFrom l p n = if sizeAt l p = 0 then (0, false) else runesFrom l (p + (oneAt l p).2) (n + 1) := by
 have hne : l.drop p ≠ [] := by
  intro e
  have := congrArg List.length e
  simp at this
  omega
 have hw := one_bounds l p hp
 unfold runesFrom
 rw [validD_step _ hne, runesU_step _ hne, List.drop_drop]
 have e : sizeAt l p = szD (decodeL (l.drop p)) := rfl
 have eo : oneAt l p = decodeL (l.drop p) := rfl
 rw [e, eo]
 rw [eo] at hw
 unfold szD
 by_cases h : (decodeL (l.drop p)).1 = 65533 ∧ (decodeL (l.drop p)).2 = 1
 ·rw [if_pos h, if_pos h, if_pos rfl]
  rfl
 ·rw [if_neg h, if_neg h, if_neg (show ¬ (decodeL (l.drop p)).2 = 0 by omega)]
  simp only [List.length_cons]
  split
  ·refine Prod.ext ?_ rfl
   simp only
   omega
  ·rfl
theorem sizeAt_good (l : List UInt8) (p : Nat) (h : sizeAt l p ≠ 0) : sizeAt l p = (oneAt l p).2 := by
 unfold sizeAt szD at h ⊢
 split at h
 ·exact absurd rfl h
 ·rename_i hc
  rw [if_neg hc]
theorem mark_width (l : List UInt8) (p : Nat) (hp : p < l.length) (h : (oneAt l p).1 = 65533) : hasPrefix (l.drop p) [239, 191, 189] = !decide (sizeAt l p = 0) := by
 have hne : l.drop p ≠ [] := by
  intro e
  have := congrArg List.length e
  simp at this
  omega
 have e : sizeAt l p = szD (decodeL (l.drop p)) := rfl
 have eo : oneAt l p = decodeL (l.drop p) := rfl
 have hw := one_bounds l p hp
 rw [eo] at h hw
 rw [e]
 have hr : encodeRune (65533 : Int) = [239, 191, 189] := by decide +kernel
 unfold hasPrefix szD
 by_cases h1 : (decodeL (l.drop p)).2 = 1
 ·rw [if_pos ⟨h, h1⟩]
  simp only [decide_true, Bool.not_true]
  by_cases hx : ([239, 191, 189] : List UInt8).isPrefixOf (l.drop p) = true
  ·obtain ⟨t, ht⟩ := List.isPrefixOf_iff_prefix.1 hx
   have := decode_encode 65533 (.inr ⟨by decide, by decide⟩) t
   rw [show ((65533 : Nat) : Int) = 65533 from rfl, hr, ht] at this
   rw [this] at h1
   simp at h1
  ·exact Bool.eq_false_iff.2 hx
 ·rw [if_neg (fun x => h1 x.2)]
  have hd : decide ((decodeL (l.drop p)).2 = 0) = false := decide_eq_false (by omega)
  rw [hd]
  simp only [Bool.not_false]
  have := encode_decode (l.drop p) hne (fun x => h1 x.2)
  rw [h, show ((65533 : Nat) : Int) = 65533 from rfl, hr] at this
  exact List.isPrefixOf_iff_prefix.2 ⟨(l.drop p).drop (decodeL (l.drop p)).2, by rw [this, List.take_append_drop]⟩
end Go.Proofs.YtmgchjddpmmglaaGreatDoor

namespace Go.Proofs
open Go.Shelf
def Tryz.laysHasPrefix_ren : Go.Shelf.Ren := ⟨fun | 99 => 192 | 206 => 226 | n => n, fun | 9 => 9 | 4 => 4 | 3 => 3 | n => n, fun | n => n⟩
theorem Tryz.laysHasPrefix : Go.Proofs.Lays.n99 Tryz.prog Tryz.laysHasPrefix_ren := {
 mixed := by kernel_rfl
 f99 := Tryz.func192.trans (congrArg some (by kernel_rfl))
 f206 := Tryz.func226.trans (congrArg some (by kernel_rfl))
 t3 := Tryz.underlying3
 a3 := Tryz.isAgg3
 z3 := Tryz.sizeOf3
 v3 := Tryz.zeroValue3
 t4 := Tryz.underlying4
 a4 := Tryz.isAgg4
 z4 := Tryz.sizeOf4
 v4 := Tryz.zeroValue4
 t9 := Tryz.underlying9
 a9 := Tryz.isAgg9
 z9 := Tryz.sizeOf9
 v9 := Tryz.zeroValue9 }
def Tryz.laysTrimSuffix_ren : Go.Shelf.Ren := ⟨fun | 102 => 152 | 209 => 191 | 207 => 225 | n => n, fun | 9 => 9 | 4 => 4 | 3 => 3 | n => n, fun | n => n⟩
theorem Tryz.laysTrimSuffix : Go.Proofs.Lays.n102 Tryz.prog Tryz.laysTrimSuffix_ren := {
 mixed := by kernel_rfl
 f102 := Tryz.func152.trans (congrArg some (by kernel_rfl))
 f207 := Tryz.func225.trans (congrArg some (by kernel_rfl))
 f209 := Tryz.func191.trans (congrArg some (by kernel_rfl))
 t3 := Tryz.underlying3
 a3 := Tryz.isAgg3
 z3 := Tryz.sizeOf3
 v3 := Tryz.zeroValue3
 t4 := Tryz.underlying4
 a4 := Tryz.isAgg4
 z4 := Tryz.sizeOf4
 v4 := Tryz.zeroValue4
 t9 := Tryz.underlying9
 a9 := Tryz.isAgg9
 z9 := Tryz.sizeOf9
 v9 := Tryz.zeroValue9 }
def Tryz.laysSplit_ren : Go.Shelf.Ren := ⟨fun | 146 => 151 | 221 => 190 | 268 => 222 | 138 => 223 | 143 => 224 | 195 => 241 | 197 => 242 | 218 => 243 | 219 => 244 | 260 => 262 | 217 => 263 | 225 => 264 | 224 => 265 | 267 => 266 | 266 => 283 | 314 => 284 | n => n, fun | 9 => 9 | 31 => 22 | 3 => 3 | 4 => 4 | 0 => 0 | 105 => 256 | 21 => 21 | 5 => 5 | 46 => 244 | 119 => 240 | 139 => 243 | 138 => 242 | 146 => 292 | 51 => 276 | n => n, fun | 1 => 3 | 3 => 1 | 4 => 2 | n => n⟩
theorem Tryz.laysSplit : Go.Proofs.LaysM.n146 Tryz.prog Tryz.laysSplit_ren := {
 mixed := by kernel_rfl
 f138 := Tryz.func223.trans (congrArg some (by kernel_rfl))
 f143 := Tryz.func224.trans (congrArg some (by kernel_rfl))
 f146 := Tryz.func151.trans (congrArg some (by kernel_rfl))
 f195 := Tryz.func241.trans (congrArg some (by kernel_rfl))
 f197 := Tryz.func242.trans (congrArg some (by kernel_rfl))
 f217 := Tryz.func263.trans (congrArg some (by kernel_rfl))
 f218 := Tryz.func243.trans (congrArg some (by kernel_rfl))
 f219 := Tryz.func244.trans (congrArg some (by kernel_rfl))
 f221 := Tryz.func190.trans (congrArg some (by kernel_rfl))
 f224 := Tryz.func265.trans (congrArg some (by kernel_rfl))
 f225 := Tryz.func264.trans (congrArg some (by kernel_rfl))
 f260 := Tryz.func262.trans (congrArg some (by kernel_rfl))
 f266 := Tryz.func283.trans (congrArg some (by kernel_rfl))
 f267 := Tryz.func266.trans (congrArg some (by kernel_rfl))
 f268 := Tryz.func222.trans (congrArg some (by kernel_rfl))
 f314 := Tryz.func284.trans (congrArg some (by kernel_rfl))
 t0 := Tryz.underlying0
 a0 := Tryz.isAgg0
 z0 := Tryz.sizeOf0
 v0 := Tryz.zeroValue0
 t3 := Tryz.underlying3
 a3 := Tryz.isAgg3
 z3 := Tryz.sizeOf3
 v3 := Tryz.zeroValue3
 t4 := Tryz.underlying4
 a4 := Tryz.isAgg4
 z4 := Tryz.sizeOf4
 v4 := Tryz.zeroValue4
 t5 := Tryz.underlying5
 a5 := Tryz.isAgg5
 z5 := Tryz.sizeOf5
 v5 := Tryz.zeroValue5
 t9 := Tryz.underlying9
 a9 := Tryz.isAgg9
 z9 := Tryz.sizeOf9
 v9 := Tryz.zeroValue9
 t21 := Tryz.underlying21
 a21 := Tryz.isAgg21
 z21 := Tryz.sizeOf21
 v21 := Tryz.zeroValue21
 t31 := Tryz.underlying22
 a31 := Tryz.isAgg22
 z31 := Tryz.sizeOf22
 v31 := Tryz.zeroValue22
 t46 := Tryz.underlying244
 a46 := Tryz.isAgg244
 z46 := Tryz.sizeOf244
 v46 := Tryz.zeroValue244
 t51 := Tryz.underlying276
 a51 := Tryz.isAgg276
 z51 := Tryz.sizeOf276
 v51 := Tryz.zeroValue276
 t105 := Tryz.underlying256
 a105 := Tryz.isAgg256
 z105 := Tryz.sizeOf256
 v105 := Tryz.zeroValue256
 t119 := Tryz.underlying240
 a119 := Tryz.isAgg240
 z119 := Tryz.sizeOf240
 t138 := Tryz.underlying242
 a138 := Tryz.isAgg242
 z138 := Tryz.sizeOf242
 v138 := Tryz.zeroValue242
 t139 := Tryz.underlying243
 a139 := Tryz.isAgg243
 z139 := Tryz.sizeOf243
 v139 := Tryz.zeroValue243
 t146 := Tryz.underlying292
 a146 := Tryz.isAgg292
 z146 := Tryz.sizeOf292
 v146 := Tryz.zeroValue292
 g1 := by kernel_rfl
 g3 := by kernel_rfl
 g4 := by kernel_rfl
 i0 := by kernel_rfl
 i3 := by kernel_rfl
 i4 := by kernel_rfl
 i5 := by kernel_rfl
 i9 := by kernel_rfl
 i21 := by kernel_rfl
 i31 := by kernel_rfl
 i46 := by kernel_rfl
 i51 := by kernel_rfl
 i105 := by kernel_rfl
 i138 := by kernel_rfl
 i139 := by kernel_rfl
 i146 := by kernel_rfl
 m1 := by kernel_rfl
 s1_3 := fun w h => Go.Proofs.cell_of_shapedOpen_int (zero := #[.int .i64 0]) (t := 3) h (of_decide_eq_true (by kernel_rfl)) (by kernel_rfl) rfl (by kernel_rfl) (by kernel_rfl) Tryz.underlying3
 m3 := by kernel_rfl
 m4 := by kernel_rfl }
end Go.Proofs

namespace Go.Proofs.YtmgchjddpmmglaaGreatDoor
open Go.RowKit Go.Lib
theorem lnext_at (l : List UInt8) (p : Nat) (hp : p < l.length) (w : World) (ty : TypeId) :
  (Instr.next (.pointer (some ⟨w.heap.size, 0, none⟩)) true ty).run Tryz.prog (w.iter (bs l) p) = .ok (.tuple #[.bool true, .int .i64 p, .int .i32 ((oneAt l p).1 : Nat)]) (w.iter (bs l) (p + (oneAt l p).2)) := by
 have h := run_next_any (P := Tryz.prog) w (bs l) p ty (by rw [bs_size]; exact hp)
 rw [← decodeL_drop] at h
 have e : (bs l).data.toList = l := by simp [bs]
 rw [e] at h
 exact h
theorem liter_below (w : World) (s : ByteArray) (p : Nat) : Below w.heap.size w (w.iter s p) := (Below.refl _ _).alloc (Nat.le_refl _) _
theorem hasprefix_any (l p : List UInt8) (w : World) :
  Calls Tryz.prog 192 #[.string (bs l), .string (bs p)] w fun e w' => e = .returned (.bool (hasPrefix l p)) ∧ w = w' := by
 have h := Any.strings_HasPrefix Tryz.laysHasPrefix (bs l) (bs p) w
 have e : ∀ l, (bs l).data.toList = l := fun l => by simp [bs]
 rw [e, e] at h
 exact h.mono fun _ _ ⟨a, b⟩ => ⟨a, b.symm⟩
set_option maxRecDepth 100000 in
set_option maxHeartbeats 1000000 in
theorem rrunes_any (l : List UInt8) (hs : l.length ≤ 1000000) (w : World) :
  Calls Tryz.prog 163 #[.string (bs l)] w fun e w' => e = .returned (.tuple #[.int .i64 ((runesN l).1 : Nat), .bool (runesN l).2]) ∧ w = w' := by
 obtain ⟨R, hR⟩ : ∃ R, runesN l = R := ⟨_, rfl⟩
 rw [hR]
 have HR := Lib.hid ((runesFrom_start l).trans hR)
 clear hR
 go_enter Tryz.func163, Tryz.ntmps163
 go_wp2
 go_loop [4, 5] (fun n i => ∃ p k : Nat, p ≤ l.length ∧ k ≤ p ∧ i = .int .i64 p ∧ n = .int .i64 k ∧ runesFrom l p k = R) (fun _ i => l.length - (RowKit.intOf i).toNat)
 case atStart => exact ⟨0, 0, Nat.zero_le _, Nat.le_refl _, rfl, rfl, HR.out⟩
 case round =>
  obtain ⟨p, k, hp, hk, rfl, rfl, hr⟩ := hrel
  by_cases hlt : p < l.length
  ·have hb := one_bounds l p hlt
   rw [runesFrom_step l p k hlt] at hr
   have HC := Lib.hid (size_any l p hlt (by omega))
   have hg := sizeAt_good l p
   obtain ⟨D, hD⟩ : ∃ D, sizeAt l p = D := ⟨_, rfl⟩
   obtain ⟨e, he⟩ : ∃ e, (oneAt l p).2 = e := ⟨_, rfl⟩
   rw [hD] at HC hr hg
   rw [he] at hr hg hb
   clear hD he
   by_cases h0 : D = 0
   ·rw [if_pos h0] at hr
    have HS := Lib.hid hr
    subst h0
    clear hr hg
    go_wp2_with fail
    refine (HC.out _).mono ?_
    rintro e w1 ⟨rfl, rfl⟩
    go_wp2_with fail
    go_ret2
    rw [← HS.out]
    exact ⟨rfl, rfl⟩
   ·rw [if_neg h0] at hr
    have HS := Lib.hid hr
    have hde := hg h0
    subst hde
    have h1 : ((D : Int) == 0) = false := by simp; omega
    clear hr hg h0
    go_wp2_with fail
    refine (HC.out _).mono ?_
    rintro e w1 ⟨rfl, rfl⟩
    go_wp2_with fail
    go_round
    case rel => exact ⟨p + D, k + 1, hb.2, by omega, by go_num, by go_num, HS.out⟩
    case measure => simp [RowKit.intOf]; omega
  ·rw [runesFrom_end l p k (by omega)] at hr
   have HS := Lib.hid hr
   clear hr
   go_wp2
   go_ret2
   rw [← HS.out]
   exact ⟨rfl, rfl⟩
set_option maxRecDepth 100000 in
set_option maxHeartbeats 2000000 in
theorem lrunes_any (l : List UInt8) (hs : l.length ≤ 1000000) (w : World) :
  Calls Tryz.prog 153 #[.string (bs l)] w fun e w' => e = .returned (.tuple #[.int .i64 ((runesN l).1 : Nat), .bool (runesN l).2]) ∧ Below w.heap.size w w' := by
 obtain ⟨R, hR⟩ : ∃ R, runesN l = R := ⟨_, rfl⟩
 rw [hR]
 have HR := Lib.hid ((runesFrom_start l).trans hR)
 clear hR
 go_enter Tryz.func153, Tryz.ntmps153
 go_wp2
 go_loopw [4] (fun i wr => ∃ p k : Nat, p ≤ l.length ∧ k ≤ p ∧ i = .int .i64 k ∧ wr = w.iter (bs l) p ∧ runesFrom l p k = R)
  (fun _ wr => l.length - wr.iterPos w.heap.size)
 case atStart => exact ⟨0, 0, Nat.zero_le _, Nat.le_refl _, rfl, rfl, HR.out⟩
 case round =>
  obtain ⟨p, k, hp, hk, rfl, rfl, hr⟩ := hrel
  by_cases hlt : p < l.length
  ·have hb := one_bounds l p hlt
   rw [runesFrom_step l p k hlt] at hr
   have hnx := lnext_at l p hlt w
   have hm := mark_width l p hlt
   have hg := sizeAt_good l p
   have HP := Lib.hid (hasprefix_any ((l.drop p).take (l.length - p)) [239, 191, 189])
   rw [show hasPrefix ((l.drop p).take (l.length - p)) [239, 191, 189] = hasPrefix (l.drop p) [239, 191, 189] by rw [List.take_of_length_le (by rw [List.length_drop]; omega)]] at HP
   have hz : (oneAt l p).1 ≠ 65533 → sizeAt l p ≠ 0 := fun h => by
    unfold sizeAt szD
    rw [if_neg (fun x => h x.1)]
    omega
   have hle : (oneAt l p).1 ≤ 1114111 := decodeL_rune _
   obtain ⟨S, hS⟩ : ∃ S, sizeAt l p = S := ⟨_, rfl⟩
   obtain ⟨D, hD⟩ : ∃ D, oneAt l p = D := ⟨_, rfl⟩
   rw [hS] at hm hg hr hz
   rw [hD] at hm hg hr hb hnx hz hle
   clear hS hD
   have HR2 := Lib.hid hr
   clear hr
   by_cases h3 : D.1 = 65533
   ·have hp3 := hm h3
    rw [hp3] at HP
    have e1 : ((D.1 : Int) == 65533) = true := by simp [h3]
    clear hp3 hm hz
    by_cases h0 : S = 0
    ·have HS := HR2.out
     rw [if_pos h0] at HS
     have HS2 := Lib.hid HS
     subst h0
     clear HS h3
     simp only [decide_true, Bool.not_true] at HP
     go_wp2_with fail
     refine (HP.out _).mono ?_
     rintro e w1 ⟨rfl, rfl⟩
     go_wp2_with fail
     go_ret2
     rw [← HS2.out]
     exact ⟨rfl, liter_below _ _ _⟩
    ·have HS := HR2.out
     rw [if_neg h0] at HS
     have HS2 := Lib.hid HS
     have hd : decide (S = 0) = false := decide_eq_false h0
     rw [hd] at HP
     clear HS h3 h0 hd
     simp only [Bool.not_false] at HP
     go_wp2_with fail
     refine (HP.out _).mono ?_
     rintro e w1 ⟨rfl, rfl⟩
     go_wp2_with fail
     go_roundw
     case rel => exact ⟨p + D.2, k + 1, hb.2, by omega, by go_num, rfl, HS2.out⟩
     case measure => simp; omega
   ·have HS := HR2.out
    rw [if_neg (hz h3)] at HS
    have HS2 := Lib.hid HS
    have e1 : ((D.1 : Int) == 65533) = false := by simp; omega
    clear HS hm hz hg h3
    go_wp2_with fail
    go_roundw
    case rel => exact ⟨p + D.2, k + 1, hb.2, by omega, by go_num, rfl, HS2.out⟩
    case measure => simp; omega
  ·have hnx := fun ty => run_next_end (P := Tryz.prog) w (bs l) p ty (by rw [bs_size]; exact hlt)
   rw [runesFrom_end l p k (by omega)] at hr
   have HS := Lib.hid hr
   clear hr
   go_wp2_with fail
   go_ret2
   rw [← HS.out]
   exact ⟨rfl, liter_below _ _ _⟩
end Go.Proofs.YtmgchjddpmmglaaGreatDoor

namespace Go.Proofs.YtmgchjddpmmglaaGreatDoor
open Go.RowKit
def HasTexts (w : World) (p : Option Addr) (L : List (List UInt8)) : Prop := ∀ j, j < L.length → ∃ g, p = some ⟨g, 0, none⟩ ∧ w.cell? ⟨g, j, none⟩ = some (.string (bs (L.getD j [])))
theorem HasTexts.below {w w' : World} {p : Option Addr} {L : List (List UInt8)} (h : HasTexts w p L) (hb : Below w.heap.size w w') : HasTexts w' p L := fun j hj => by
 obtain ⟨g, hp, hc⟩ := h j hj
 exact ⟨g, hp, cell_later hb hc⟩
def Texts (w : World) (v : Value) (L : List (List UInt8)) : Prop := ∃ p cap, v = .slice p L.length cap ∧ HasTexts w p L
theorem Texts.below {w w' : World} {v : Value} {L : List (List UInt8)} (h : Texts w v L) (hb : Below w.heap.size w w') : Texts w' v L := by
 obtain ⟨p, cap, hv, ht⟩ := h
 exact ⟨p, cap, hv, ht.below hb⟩
theorem texts_none (w : World) : Texts w (.slice none 0 0) [] := ⟨none, 0, rfl, fun j hj => absurd hj (Nat.not_lt_zero j)⟩
def strs (L : List (List UInt8)) : List Value := L.map fun l => .string (bs l)
theorem strs_snoc (L : List (List UInt8)) (l : List UInt8) : strs L ++ [.string (bs l)] = strs (L ++ [l]) := by simp [strs]
theorem own_texts {w : World} {B : Nat} {e : TypeId} {v : Value} {L : List (List UInt8)} (h : w.ownsRow B e 1 v L.length (strs L)) : Texts w v L := by
 obtain ⟨-, ⟨h0, hn⟩ | ⟨g, cap, cur, hv, -, hw, -, -, -, ht⟩⟩ := h
 ·have : L = [] := List.eq_nil_of_length_eq_zero hn
  subst this h0
  exact texts_none w
 ·refine ⟨_, cap, hv, fun j hj => ⟨g, rfl, ?_⟩⟩
  have h1 := congrArg (fun x : List Value => x[j]?) ht
  simp only [Nat.mul_one, List.getElem?_take, hj, if_true, Array.getElem?_toList] at h1
  rw [cell_of_row w g j _ _ (0, 0) hw, h1]
  simp [strs, hj]
theorem info_str : (Tryz.prog.info? 9).map (fun i => (i.zero, i.size, i.bytes)) = some (some (.string ByteArray.empty), 1, 16) := by kernel_rfl
theorem list_same_step (L M : List (List UInt8)) (i : Nat) (R : Bool) (hl : L.length = M.length) (hi : i < L.length) (h : (L.drop i == M.drop i) = R) : (if L.getD i [] = M.getD i [] then (L.drop (i + 1) == M.drop (i + 1)) else false) = R := by
 have e1 : L.drop i = L.getD i [] :: L.drop (i + 1) := by
  rw [List.drop_eq_getElem_cons hi]
  simp [hi]
 have e2 : M.drop i = M.getD i [] :: M.drop (i + 1) := by
  rw [List.drop_eq_getElem_cons (by omega)]
  simp [hl ▸ hi]
 rw [e1, e2] at h
 rw [← h]
 by_cases hc : L.getD i [] = M.getD i []
 ·rw [if_pos hc, hc]
  simp
 ·rw [if_neg hc]
  exact (beq_eq_false_iff_ne.2 fun e => hc (List.cons.inj e).1).symm
end Go.Proofs.YtmgchjddpmmglaaGreatDoor

namespace Go.Proofs.YtmgchjddpmmglaaGreatDoor
open Go.RowKit Go.Lib
def HasMax (w : World) : Prop := ∃ m, w.cell? ⟨Tryz.laysSplit_ren.g 1, 0, none⟩ = some (.int .i64 m)
theorem HasMax.below {w w' : World} (h : HasMax w) (hb : Below w.heap.size w w') : HasMax w' := by
 obtain ⟨m, hm⟩ := h
 exact ⟨m, cell_later hb hm⟩
theorem trimsuffix_any (l p : List UInt8) (hs : l.length ≤ 9223372036854775807) (w : World) :
  Calls Tryz.prog 152 #[.string (bs l), .string (bs p)] w fun e w' => e = .returned (.string (bs (trimSuffix l p))) ∧ w = w' := by
 have h := Any.strings_TrimSuffix Tryz.laysTrimSuffix (bs l) (bs p) w (by rw [bs_size]; exact hs)
 have e : ∀ l, (bs l).data.toList = l := fun l => by simp [bs]
 rw [e, e] at h
 exact h.mono fun _ _ ⟨a, b⟩ => ⟨a, b.symm⟩
theorem split_any (s : List UInt8) (hs : s.length ≤ 1000000) (w : World) (hm : HasMax w) :
  Calls Tryz.prog 151 #[.string (bs s), .string (bs [10])] w fun e w' => e = .returned (.slice (some ⟨w.heap.size, 0, none⟩) (partAux [] s).length (partAux [] s).length) ∧ HasTexts w' (some ⟨w.heap.size, 0, none⟩) (partAux [] s) ∧ Below w.heap.size w w' := by
 obtain ⟨m, hm⟩ := hm
 have h := Any.strings_Split { Tryz.laysSplit with } Tryz.laysSplit.i9 (bs s) (bs [10]) m w (by rw [bs_size]; omega) hm (by rw [bs_size]; exact Nat.le_refl _)
 have e : ∀ l, (bs l).data.toList = l := fun l => by simp [bs]
 have hd := splitB_data (bs [10]) 0 (countB (bs s) (bs [10])) (bs s)
 rw [e, e] at hd
 have hc : countB (bs s) (bs [10]) = count s [10] := by unfold countB; rw [e, e]
 rw [hc, split_eq] at hd
 rw [hc] at h
 obtain ⟨L, hL⟩ : ∃ L, splitB (bs [10]) 0 (count s [10]) (bs s) = L := ⟨_, rfl⟩
 have hlen := splitB_all (bs [10]) (by rw [bs_size]; exact Nat.le_refl _) 0 _ (bs s) hc
 rw [hL] at hd h hlen
 have hl : (partAux [] s).length = count s [10] + 1 := by rw [← hd, List.length_map, hlen]
 rw [hl]
 refine h.mono fun e' w' ⟨h1, h2⟩ => ⟨h1, ?_, ?_⟩
 ·intro j hj
  refine ⟨_, rfl, ?_⟩
  rw [h2, cell_of_row _ _ j _ _ (0, 0) (heap_alloc_new w _)]
  rw [← hd] at hj ⊢
  rw [List.length_map] at hj
  simp [hj, ← bs_data]
 ·rw [h2]
  exact (Below.refl _ _).alloc (Nat.le_refl _) _
theorem runesN_snd (l : List UInt8) : (runesN l).2 = validD l := by
 unfold runesN
 split <;> simp [*]
theorem drop_at (L : List (List UInt8)) (k : Nat) (h : k < L.length) : L.drop k = L.getD k [] :: L.drop (k + 1) := by
 rw [List.drop_eq_getElem_cons h]
 simp [h]
theorem part_len : ∀ (t cur : List UInt8), (partAux cur t).length ≤ t.length + 1
 | [], cur => by simp [partAux]
 | b :: t, cur => by
  unfold partAux
  split
  ·have := part_len t []
   simp only [List.length_cons]; omega
  ·have := part_len t (cur ++ [b])
   simp only [List.length_cons]; omega
theorem part_mem : ∀ (t cur : List UInt8), ∀ x ∈ partAux cur t, x.length ≤ cur.length + t.length
 | [], cur => by simp [partAux]
 | b :: t, cur => by
  unfold partAux
  split
  ·intro x hx
   rcases List.mem_cons.1 hx with rfl | hx
   ·simp
   ·have := part_mem t [] x hx
    simp only [List.length_cons, List.length_nil] at this ⊢
    omega
  ·intro x hx
   have := part_mem t _ x hx
   simp only [List.length_append, List.length_cons, List.length_nil] at this ⊢
   omega
set_option maxRecDepth 100000 in
set_option maxHeartbeats 1000000 in
theorem lof_any (l : List UInt8) (hs : l.length ≤ 1000000) (w : World) (hm : HasMax w) :
  Calls Tryz.prog 115 #[.string (bs l)] w fun e w' => ∃ v, e = .returned (.tuple #[v, .int .i64 ((ofL l).2.1 : Nat), .int .i64 ((ofL l).2.2 : Nat)]) ∧ Texts w' v (ofL l).1 ∧ Below w.heap.size w w' := by
 by_cases hlong : 65536 < l.length
 ·have e : ofL l = ([], 0, 6) := if_pos hlong
  rw [e]
  clear e
  go_enter Tryz.func115, Tryz.ntmps115
  go_wp2_with fail
  go_ret3
  exact ⟨_, rfl, texts_none _, Below.refl _ _⟩
 ·by_cases hnil : l = []
  ·subst hnil
   have e : ofL [] = ([], 0, 0) := rfl
   rw [e]
   clear e hlong
   go_enter Tryz.func115, Tryz.ntmps115
   go_wp2_with fail
   go_ret3
   exact ⟨_, rfl, texts_none _, Below.refl _ _⟩
  ·have e0 : (l == []) = false := beq_eq_false_iff_ne.2 hnil
   have hll := split_lines l hnil
   have hle := trimSuffix_le l [10]
   have HT := Lib.hid (trimsuffix_any l [10] (by omega))
   have HS := Lib.hid (split_any (trimSuffix l [10]) (by omega))
   have hmem := part_mem (trimSuffix l [10]) []
   have hcnt := part_len (trimSuffix l [10]) []
   rw [hll] at HS hmem hcnt
   obtain ⟨M, hM⟩ : ∃ M, linesL l = M := ⟨_, rfl⟩
   have e : ofL l = resGo (linesL l) 0 (linesL l) := if_neg hlong
   rw [e]
   rw [hM] at HS hmem hcnt ⊢
   obtain ⟨R, hR⟩ : ∃ R, resGo M 0 M = R := ⟨_, rfl⟩
   rw [hR]
   have HR := Lib.hid hR
   have HE := Lib.hid (fun x hx => Nat.le_trans (hmem x hx) (show ([] : List UInt8).length + (trimSuffix l [10]).length ≤ 1000000 by simp only [List.length_nil]; omega))
   generalize trimSuffix l [10] = t at *
   have HM := Lib.hid hm
   have hM2 : M.length ≤ 1000001 := by omega
   clear hR hll e hM hmem hcnt hle hm hnil
   go_enter Tryz.func115, Tryz.ntmps115
   go_wp2_with fail
   refine (HT.out _).mono ?_
   rintro e w' ⟨rfl, rfl⟩
   go_wp2_with fail
   refine (HS.out _ HM.out).mono ?_
   rintro e w1 ⟨rfl, ht, hb1⟩
   have HX := Lib.hid ht
   clear ht
   go_wp2_with fail
   go_loopw [20] (fun i wr => ∃ k : Nat, k ≤ M.length ∧ i = .int .i64 k ∧ Below w1.heap.size w1 wr ∧ resGo M k (M.drop k) = R) (fun i _ => M.length - (RowKit.intOf i).toNat)
   case atStart => exact ⟨0, Nat.zero_le _, rfl, Below.refl _ _, HR.out⟩
   case round =>
    obtain ⟨k, hk, rfl, hbr, hr⟩ := hrel
    by_cases hlt : k < M.length
    ·obtain ⟨g, hg, hc⟩ := HX.out k hlt
     obtain rfl : w.heap.size = g := by simpa using hg
     have hc' := cell_later hbr hc
     rw [drop_at M k hlt] at hr
     simp only [resGo] at hr
     have hx := HE.out (M.getD k []) (by
      have : M.getD k [] = M[k] := by simp [hlt]
      rw [this]
      exact List.getElem_mem hlt)
     obtain ⟨x, hx'⟩ : ∃ x, M.getD k [] = x := ⟨_, rfl⟩
     rw [hx'] at hr hc' hx
     have HC := Lib.hid (lrunes_any x hx)
     have hv := runesN_snd x
     generalize runesN x = N at *
     obtain ⟨N1, N2⟩ := N
     simp only at HC hv
     subst hv
     clear hc hg hx' hx
     by_cases hval : validD x = true
     ·rw [if_pos hval] at hr
      rw [hval] at HC
      have H2 := Lib.hid hr
      clear hr hval
      go_wp2_with fail
      refine (HC.out _).mono ?_
      rintro e w2 ⟨rfl, hb2⟩
      go_wp2_with fail
      go_roundw
      case rel => exact ⟨k + 1, by omega, by go_num, below_next hbr hb2, H2.out⟩
      case measure => simp [RowKit.intOf]; omega
     ·rw [if_neg hval] at hr
      have hval' : validD x = false := by simpa using hval
      rw [hval'] at HC
      have H2 := Lib.hid hr
      clear hr hval hval'
      go_wp2_with fail
      refine (HC.out _).mono ?_
      rintro e w2 ⟨rfl, hb2⟩
      go_wp2_with fail
      go_ret3
      rw [← H2.out]
      exact ⟨_, rfl, texts_none _, below_next hb1 (below_next hbr hb2)⟩
    ·have ek : k = M.length := by omega
     subst ek
     rw [List.drop_eq_nil_of_le (Nat.le_refl _)] at hr
     have H2 := Lib.hid hr
     clear hr
     go_wp2_with fail
     go_ret3
     rw [← H2.out]
     exact ⟨_, rfl, ⟨_, _, rfl, HX.out.below hbr⟩, below_next hb1 hbr⟩
def curL (l : List UInt8) (f i : Nat) : List UInt8 := (l.drop f).take (i - f)
def refAt (l : List UInt8) (done : List (List UInt8)) (f i : Nat) : List (List UInt8) × Nat × Nat := if i ≤ l.length then refGo done (curL l f i) (l.drop i) else (done, 0, 0)
theorem curL_nil (l : List UInt8) (i : Nat) : curL l i i = [] := by simp [curL]
theorem curL_ne (l : List UInt8) (f i : Nat) (h : f < i) (hi : i ≤ l.length) : curL l f i ≠ [] := fun e => by
 have := congrArg List.length e
 unfold curL at this
 rw [List.length_take, List.length_drop, List.length_nil] at this
 omega
theorem curL_len (l : List UInt8) (f i : Nat) : (curL l f i).length ≤ l.length := by
 unfold curL
 rw [List.length_take, List.length_drop]
 omega
theorem curL_snoc (l : List UInt8) (f i : Nat) (h : f ≤ i) (hi : i < l.length) : curL l f (i + 1) = curL l f i ++ [l[i]] := by
 unfold curL
 rw [show i + 1 - f = (i - f) + 1 by omega, List.take_add_one, List.getElem?_drop, show f + (i - f) = i by omega]
 simp [hi]
theorem refAt_start (l : List UInt8) : refAt l [] 0 0 = resGo (linesL l) 0 (linesL l) := by
 unfold refAt
 rw [if_pos (Nat.zero_le _), curL_nil, List.drop_zero, ref_of]
theorem refAt_go (l : List UInt8) (done : List (List UInt8)) (f i : Nat) (h : f ≤ i) (hi : i < l.length) (hb : l[i] ≠ 10) : refAt l done f i = refAt l done f (i + 1) := by
 unfold refAt
 rw [if_pos (by omega), if_pos (by omega), curL_snoc l f i h hi, List.drop_eq_getElem_cons hi]
 simp only [refGo, if_neg hb]
theorem refAt_feed (l : List UInt8) (done : List (List UInt8)) (f i : Nat) (hi : i < l.length) (hb : l[i] = 10) :
  refAt l done f i = if validD (curL l f i) then refAt l (done ++ [curL l f i]) (i + 1) (i + 1) else ([], done.length + 1, 5) := by
 unfold refAt
 rw [if_pos (by omega), if_pos (show i + 1 ≤ l.length by omega), curL_nil, List.drop_eq_getElem_cons hi]
 simp only [refGo, if_pos hb]
theorem refAt_bare (l : List UInt8) (done : List (List UInt8)) (i : Nat) (hi : i = l.length) : refAt l done i i = refAt l done i (i + 1) := by
 unfold refAt
 rw [if_pos (by omega), if_neg (by omega), curL_nil, List.drop_eq_nil_of_le (by omega)]
 simp only [refGo, if_pos]
theorem refAt_last (l : List UInt8) (done : List (List UInt8)) (f i : Nat) (h : f < i) (hi : i = l.length) :
  refAt l done f i = if validD (curL l f i) then refAt l (done ++ [curL l f i]) (i + 1) (i + 1) else ([], done.length + 1, 5) := by
 unfold refAt
 rw [if_pos (by omega), if_neg (show ¬ i + 1 ≤ l.length by omega), List.drop_eq_nil_of_le (by omega)]
 simp only [refGo, if_neg (curL_ne l f i h (by omega))]
theorem refAt_end (l : List UInt8) (done : List (List UInt8)) (f i : Nat) (hi : l.length < i) : refAt l done f i = (done, 0, 0) := if_neg (by omega)
set_option maxRecDepth 100000 in
set_option maxHeartbeats 2000000 in
theorem rof_any (l : List UInt8) (hs : l.length ≤ 1000000) (w : World) :
  Calls Tryz.prog 121 #[.string (bs l)] w fun e w' => ∃ v, e = .returned (.tuple #[v, .int .i64 ((ofL l).2.1 : Nat), .int .i64 ((ofL l).2.2 : Nat)]) ∧ Texts w' v (ofL l).1 ∧ Below w.heap.size w w' := by
 by_cases hlong : 65536 < l.length
 ·have e : ofL l = ([], 0, 6) := if_pos hlong
  rw [e]
  clear e
  go_enter Tryz.func121, Tryz.ntmps121
  go_wp2_with fail
  go_ret3
  exact ⟨_, rfl, texts_none _, Below.refl _ _⟩
 ·have e : ofL l = resGo (linesL l) 0 (linesL l) := if_neg hlong
  rw [e, ← refAt_start]
  obtain ⟨R, hR⟩ : ∃ R, refAt l [] 0 0 = R := ⟨_, rfl⟩
  rw [hR]
  have HR := Lib.hid hR
  clear hR e
  obtain ⟨i0, hi, hz0, hz1, hz2⟩ := info_parts info_str
  go_enter Tryz.func121, Tryz.ntmps121
  go_wp2
  go_loopw [5, 6, 7] (fun v x y wr => ∃ f i : Nat, ∃ done : List (List UInt8), f ≤ i ∧ i ≤ l.length + 1 ∧ x = .int .i64 f ∧ y = .int .i64 i ∧ wr.ownsRow w.heap.size 9 1 v done.length (strs done) ∧ Below w.heap.size w wr ∧ done.length ≤ i ∧ refAt l done f i = R)
   (fun _ _ y _ => l.length + 1 - (RowKit.intOf y).toNat)
  case atStart =>
   exact ⟨0, 0, [], Nat.le_refl _, Nat.zero_le _, rfl, rfl, World.ownsRow_made w #[] 0 (Nat.le_refl _) (Nat.zero_le _) rfl, (Below.refl _ _).alloc (Nat.le_refl _) _, Nat.le_refl _, HR.out⟩
  case round =>
   obtain ⟨f, i, done, hf, hi', rfl, rfl, hown, hbw, hdl, hr⟩ := hrel
   by_cases hlt : i < l.length
   ·have e2 : ((i : Int) == (l.length : Int)) = false := beq_eq_false_iff_ne.2 (by omega)
    by_cases hb : l[i] = 10
    ·rw [refAt_feed l done f i hlt hb] at hr
     have e1 : ((l[i].toNat : Int) != 10) = false := by rw [hb]; rfl
     clear hb hi'
     have HC := Lib.hid (rrunes_any (curL l f i) (by have := curL_len l f i; omega))
     have hv := runesN_snd (curL l f i)
     have ec : (l.drop f).take (i - f) = curL l f i := rfl
     generalize curL l f i = x at *
     generalize runesN x = N at *
     obtain ⟨N1, N2⟩ := N
     simp only at HC hv
     subst hv
     by_cases hval : validD x = true
     ·rw [if_pos hval] at hr
      rw [hval] at HC
      have H2 := Lib.hid hr
      have HE := Lib.hid ec
      clear hr hval ec
      go_wp2_with fail
      rw [HE.out]
      refine (HC.out _).mono ?_
      rintro e w2 ⟨rfl, rfl⟩
      go_wp2_with (at_builtin; refine wpList_append_own _ rfl _ _ 22 rfl w.heap.size 9 i0 (.string ByteArray.empty) 1 16 Tryz.underlying22 hi hz0 hz1 hz2 rfl (by decide) _ _ _ rfl (hown.alloc _) ⟨wr.heap.size, 0, none⟩ 1 1 [.string (bs x)] rfl rfl ?c1 ?c2 ?c3 ?c4 ?c5 ?_)
      case c1 =>
       intro j u hj
       match j, hj with
       | 0, hj => simp at hj; subst hj; simp [Addr.add]
      case c2 => intro u hu; simp at hu; subst hu; rfl
      case c3 => unfold maxLen; omega
      case c4 => omega
      case c5 => have := hbw.size; simp; omega
      ·intro v' w1 hown' hgrow hnil
       have HO := Lib.hid hown'
       clear hown' hnil
       have hb1 : Below w.heap.size w w1 := (hbw.alloc (by have := hbw.size; omega) _).grown hgrow (by have := hbw.size; simp; omega) (fun k hk => (hown.lt k hk).1)
       go_wp2_with fail
       go_roundw
       case rel =>
        refine ⟨i + 1, i + 1, done ++ [x], Nat.le_refl _, by omega, by go_num, by go_num, ?_, hb1, by simp; omega, H2.out⟩
        have := HO.out
        rw [strs_snoc] at this
        simpa using this
       case measure => simp [RowKit.intOf]; omega
     ·rw [if_neg hval] at hr
      have hval' : validD x = false := by simpa using hval
      rw [hval'] at HC
      have H2 := Lib.hid hr
      have HE := Lib.hid ec
      clear hr hval hval' ec
      go_wp2_with fail
      rw [HE.out]
      refine (HC.out _).mono ?_
      rintro e w2 ⟨rfl, rfl⟩
      obtain ⟨q, cap, rfl, -⟩ := own_texts hown
      go_wp2_with fail
      go_ret3
      rw [← H2.out]
      exact ⟨_, rfl, texts_none _, hbw⟩
    ·rw [refAt_go l done f i hf hlt hb] at hr
     have e1 : ((l[i].toNat : Int) != 10) = true := by
      simp only [bne_iff_ne, ne_eq]
      intro h
      exact hb (UInt8.toNat_inj.1 (by simpa using (by omega : l[i].toNat = 10)))
     have H2 := Lib.hid hr
     clear hr hb hi'
     go_wp2_with fail
     go_roundw
     case rel => exact ⟨f, i + 1, done, by omega, by omega, rfl, by go_num, hown, hbw, by omega, H2.out⟩
     case measure => simp [RowKit.intOf]; omega
   ·by_cases hend : i = l.length
    ·have e2 : ((i : Int) == (l.length : Int)) = true := beq_iff_eq.2 (by omega)
     by_cases hfi : f = i
     ·subst hfi
      rw [refAt_bare l done f hend] at hr
      have H2 := Lib.hid hr
      clear hr
      go_wp2_with fail
      go_roundw
      case rel => exact ⟨f, f + 1, done, by omega, by omega, rfl, by go_num, hown, hbw, by omega, H2.out⟩
      case measure => simp [RowKit.intOf]; omega
     ·rw [refAt_last l done f i (by omega) hend] at hr
      have e3 : ((f : Int) == (l.length : Int)) = false := beq_eq_false_iff_ne.2 (by omega)
      clear hfi
      have HC := Lib.hid (rrunes_any (curL l f i) (by have := curL_len l f i; omega))
      have hv := runesN_snd (curL l f i)
      have ec : (l.drop f).take (l.length - f) = curL l f i := by rw [← hend]; rfl
      generalize curL l f i = x at *
      generalize runesN x = N at *
      obtain ⟨N1, N2⟩ := N
      simp only at HC hv
      subst hv
      by_cases hval : validD x = true
      ·rw [if_pos hval] at hr
       rw [hval] at HC
       have H2 := Lib.hid hr
       have HE := Lib.hid ec
       clear hr hval ec
       go_wp2_with fail
       rw [HE.out]
       refine (HC.out _).mono ?_
       rintro e w2 ⟨rfl, rfl⟩
       go_wp2_with (at_builtin; refine wpList_append_own _ rfl _ _ 22 rfl w.heap.size 9 i0 (.string ByteArray.empty) 1 16 Tryz.underlying22 hi hz0 hz1 hz2 rfl (by decide) _ _ _ rfl (hown.alloc _) ⟨wr.heap.size, 0, none⟩ 1 1 [.string (bs x)] rfl rfl ?c1 ?c2 ?c3 ?c4 ?c5 ?_)
       case c1 =>
        intro j u hj
        match j, hj with
        | 0, hj => simp at hj; subst hj; simp [Addr.add]
       case c2 => intro u hu; simp at hu; subst hu; rfl
       case c3 => unfold maxLen; omega
       case c4 => omega
       case c5 => have := hbw.size; simp; omega
       ·intro v' w1 hown' hgrow hnil
        have HO := Lib.hid hown'
        clear hown' hnil
        have hb1 : Below w.heap.size w w1 := (hbw.alloc (by have := hbw.size; omega) _).grown hgrow (by have := hbw.size; simp; omega) (fun k hk => (hown.lt k hk).1)
        go_wp2_with fail
        go_roundw
        case rel =>
         refine ⟨i + 1, i + 1, done ++ [x], Nat.le_refl _, by omega, by go_num, by go_num, ?_, hb1, by simp; omega, H2.out⟩
         have := HO.out
         rw [strs_snoc] at this
         simpa using this
        case measure => simp [RowKit.intOf]; omega
      ·rw [if_neg hval] at hr
       have hval' : validD x = false := by simpa using hval
       rw [hval'] at HC
       have H2 := Lib.hid hr
       have HE := Lib.hid ec
       clear hr hval hval' ec
       go_wp2_with fail
       rw [HE.out]
       refine (HC.out _).mono ?_
       rintro e w2 ⟨rfl, rfl⟩
       obtain ⟨q, cap, rfl, -⟩ := own_texts hown
       go_wp2_with fail
       go_ret3
       rw [← H2.out]
       exact ⟨_, rfl, texts_none _, hbw⟩
    ·rw [refAt_end l done f i (by omega)] at hr
     have H2 := Lib.hid hr
     clear hr
     go_wp2_with fail
     go_ret3
     rw [← H2.out]
     exact ⟨_, rfl, own_texts hown, hbw⟩
end Go.Proofs.YtmgchjddpmmglaaGreatDoor

namespace Go.Proofs.YtmgchjddpmmglaaGreatDoor
open Go.Lib
def blankR (c : Nat) : Bool := decide (c = 9) || decide (c = 13) || decide (c = 32)
def blankB (b : UInt8) : Bool := blankR b.toNat
theorem blankB_low (b : UInt8) (h : blankB b = true) : b.toNat < 128 := by
 unfold blankB blankR at h
 simp only [Bool.or_eq_true, decide_eq_true_eq] at h
 omega
theorem blankR_high (c : Nat) (h : 128 ≤ c) : blankR c = false := by
 unfold blankR
 simp only [Bool.or_eq_false_iff, decide_eq_false_iff_not]
 omega
theorem decN_high (n b0 b1 b2 b3 : Nat) (h : 128 ≤ b0) : 128 ≤ (decodeN n b0 b1 b2 b3).1 := by
 unfold decodeN
 repeat' split
 all_goals (simp only; omega)
theorem dec_blank (b : UInt8) (t : List UInt8) : blankR (decodeL (b :: t)).1 = blankB b ∧ (blankB b = true → (decodeL (b :: t)).2 = 1) := by
 by_cases h : b.toNat < 128
 ·rw [decodeL_ascii b t h]
  exact ⟨rfl, fun _ => rfl⟩
 ·have h2 := decN_high (b :: t).length ((b :: t).getD 0 0).toNat ((b :: t).getD 1 0).toNat ((b :: t).getD 2 0).toNat ((b :: t).getD 3 0).toNat (by simp only [List.getD_cons_zero]; omega)
  rw [← decodeL_N] at h2
  rw [blankR_high _ h2]
  refine ⟨(blankR_high _ (by omega)).symm, fun hb => absurd (blankB_low b hb) h⟩
def strL (l : List UInt8) : List UInt8 := l.dropWhile blankB
theorem strL_cons (b : UInt8) (t : List UInt8) : strL (b :: t) = if blankB b then strL t else b :: t := by
 unfold strL
 rw [List.dropWhile_cons]
theorem bs_list (l : List UInt8) : (bs l).data.toList = l := by simp [bs]
theorem idx_left (l : List UInt8) : ∀ (f p : Nat), p ≤ l.length → l.length - p ≤ f →
  (strL (l.drop p) = [] ∧ idxFuncFrom blankR false (bs l) f p = -1) ∨ (∃ q : Nat, p ≤ q ∧ q < l.length ∧ idxFuncFrom blankR false (bs l) f p = q ∧ strL (l.drop p) = l.drop q)
 | 0, p, hp, hf => by
  have e : l.drop p = [] := List.drop_eq_nil_of_le (by omega)
  rw [e]
  exact .inl ⟨rfl, rfl⟩
 | f + 1, p, hp, hf => by
  unfold idxFuncFrom
  rw [bs_size]
  by_cases h : p < l.length
  ·rw [if_pos h, ← decodeL_drop, bs_list]
   have e : l.drop p = l[p] :: l.drop (p + 1) := List.drop_eq_getElem_cons h
   rw [e]
   obtain ⟨h1, h2⟩ := dec_blank l[p] (l.drop (p + 1))
   rw [h1, strL_cons]
   by_cases hb : blankB l[p] = true
   ·rw [h2 hb, hb]
    simp only [if_true, Bool.true_eq_false, if_false]
    rcases idx_left l f (p + 1) (by omega) (by omega) with ⟨h3, h4⟩ | ⟨q, h3, h4, h5, h6⟩
    ·exact .inl ⟨h3, h4⟩
    ·exact .inr ⟨q, by omega, h4, h5, h6⟩
   ·rw [if_neg hb]
    have hb' : blankB l[p] = false := by simpa using hb
    rw [hb']
    simp only [if_true]
    exact .inr ⟨p, Nat.le_refl _, h, rfl, e.symm⟩
  ·rw [if_neg h]
   have e : l.drop p = [] := List.drop_eq_nil_of_le (by omega)
   rw [e]
   exact .inl ⟨rfl, rfl⟩
theorem left_eq (l : List UInt8) : trimLeftF blankR (bs l) = bs (strL l) := by
 unfold trimLeftF idxFunc
 rcases idx_left l (bs l).size 0 (Nat.zero_le _) (by rw [bs_size]; omega) with ⟨h1, h2⟩ | ⟨q, -, h2, h3, h4⟩
 ·rw [h2, if_pos rfl]
  rw [List.drop_zero] at h1
  rw [h1]
  rfl
 ·rw [h3, if_neg (by omega)]
  rw [List.drop_zero] at h4
  rw [h4, bs_extract, bs_size, show ((q : Int)).toNat = q by omega, List.take_of_length_le (by rw [List.length_drop]; omega)]
theorem getD_appL (y z : List UInt8) (i : Nat) (h : i < y.length) : (y ++ z).getD i 0 = y.getD i 0 := by
 simp [List.getD, List.getElem?_append_left h]
end Go.Proofs.YtmgchjddpmmglaaGreatDoor

namespace Go.Proofs.YtmgchjddpmmglaaGreatDoor
open Go.RowKit Go.Lib
def colGo : Nat → List UInt8 → Nat → Int → Nat
 | 0, _, _, _ => 0
 | f + 1, l, p, at' => if p < l.length ∧ (p : Int) < at' then 1 + colGo f l (p + (oneAt l p).2) at' else 0
def colN (l : List UInt8) (p : Nat) (at' : Int) : Nat := colGo (l.length - p) l p at'
theorem colGo_fuel (l : List UInt8) (at' : Int) : ∀ (f g p : Nat), l.length - p ≤ f → l.length - p ≤ g → colGo f l p at' = colGo g l p at'
 | 0, 0, _, _, _ => rfl
 | 0, g + 1, p, hf, _ => by
  unfold colGo
  rw [if_neg (by omega)]
 | f + 1, 0, p, _, hg => by
  unfold colGo
  rw [if_neg (by omega)]
 | f + 1, g + 1, p, hf, hg => by
  unfold colGo
  by_cases h : p < l.length ∧ (p : Int) < at'
  ·have hb := one_bounds l p h.1
   rw [if_pos h, if_pos h, colGo_fuel l at' f g (p + (oneAt l p).2) (by omega) (by omega)]
  ·rw [if_neg h, if_neg h]
theorem col_step (l : List UInt8) (p : Nat) (at' : Int) (hp : p < l.length) : colN l p at' = if (p : Int) < at' then 1 + colN l (p + (oneAt l p).2) at' else 0 := by
 have hb := one_bounds l p hp
 unfold colN
 obtain ⟨f, hf⟩ : ∃ f, l.length - p = f + 1 := ⟨l.length - p - 1, by omega⟩
 rw [hf]
 by_cases h : (p : Int) < at'
 ·rw [if_pos h]
  show (if p < l.length ∧ (p : Int) < at' then _ else _) = _
  rw [if_pos ⟨hp, h⟩, colGo_fuel l at' f _ (p + (oneAt l p).2) (by omega) (Nat.le_refl _)]
 ·rw [if_neg h]
  show (if p < l.length ∧ (p : Int) < at' then _ else _) = _
  rw [if_neg (fun x => h x.2)]
theorem col_end (l : List UInt8) (p : Nat) (at' : Int) (hp : l.length ≤ p) : colN l p at' = 0 := by
 unfold colN
 rw [show l.length - p = 0 by omega]
 rfl
theorem col_past (l : List UInt8) (p : Nat) (at' : Int) (h : at' ≤ (p : Int)) : colN l p at' = 0 := by
 by_cases hp : p < l.length
 ·rw [col_step l p at' hp, if_neg (by omega)]
 ·exact col_end l p at' (by omega)
def colT (l : List UInt8) (at' : Int) : Nat := if validD l then colN l 0 at' else 0
theorem valid_at (l : List UInt8) (p : Nat) (hp : p < l.length) (h : validD (l.drop p) = true) : sizeAt l p = (oneAt l p).2 ∧ validD (l.drop (p + (oneAt l p).2)) = true := by
 have hne : l.drop p ≠ [] := by
  intro e
  have := congrArg List.length e
  simp at this
  omega
 have hw := one_bounds l p hp
 rw [validD_step _ hne] at h
 split at h
 ·simp at h
 ·rename_i hc
  have hs : sizeAt l p = (oneAt l p).2 := by
   unfold sizeAt szD
   exact if_neg hc
  refine ⟨hs, ?_⟩
  rw [List.drop_drop] at h
  exact h
set_option maxRecDepth 100000 in
set_option maxHeartbeats 1000000 in
theorem rcolumn_any (l : List UInt8) (hs : l.length ≤ 1000000) (at' : Int) (w : World) :
  Calls Tryz.prog 207 #[.string (bs l), .int .i64 at'] w fun e w' => e = .returned (.int .i64 (colT l at' : Nat)) ∧ w = w' := by
 have HC := Lib.hid (rrunes_any l hs)
 have hv := runesN_snd l
 generalize runesN l = N at *
 obtain ⟨N1, N2⟩ := N
 simp only at HC hv
 subst hv
 by_cases hval : validD l = true
 ·have e : colT l at' = colN l 0 at' := if_pos hval
  rw [e]
  obtain ⟨R, hR⟩ : ∃ R, colN l 0 at' = R := ⟨_, rfl⟩
  rw [hR]
  have HR := Lib.hid hR
  have HV := Lib.hid hval
  rw [hval] at HC
  clear e hval
  by_cases hneg : at' < 0
  ·rw [col_past l 0 at' (by omega)] at hR
   have H2 := Lib.hid hR
   clear hR
   go_enter Tryz.func207, Tryz.ntmps207
   go_wp2_with fail
   refine (HC.out _).mono ?_
   rintro e w1 ⟨rfl, rfl⟩
   go_wp2_with fail
   go_ret
   rw [← H2.out]
   exact ⟨rfl, rfl⟩
  ·have hneg' : 0 ≤ at' := by omega
   clear hR hneg
   go_enter Tryz.func207, Tryz.ntmps207
   go_wp2_with fail
   refine (HC.out _).mono ?_
   rintro e w1 ⟨rfl, rfl⟩
   go_wp2_with fail
   go_loop [7, 8] (fun n i => ∃ p k : Nat, p ≤ l.length ∧ k ≤ p ∧ i = .int .i64 p ∧ n = .int .i64 k ∧ validD (l.drop p) = true ∧ k + colN l p at' = R) (fun _ i => l.length - (RowKit.intOf i).toNat)
   case atStart => exact ⟨0, 0, Nat.zero_le _, Nat.le_refl _, rfl, rfl, HV.out, by rw [HR.out]; omega⟩
   case round =>
    obtain ⟨p, k, hp, hk, rfl, rfl, hv, hr⟩ := hrel
    by_cases hlt : p < l.length
    ·have hb := one_bounds l p hlt
     obtain ⟨v1, v2⟩ := valid_at l p hlt hv
     have HZ := Lib.hid (size_any l p hlt (by omega))
     rw [col_step l p at' hlt] at hr
     rw [v1] at HZ
     obtain ⟨D, hD⟩ : ∃ D, (oneAt l p).2 = D := ⟨_, rfl⟩
     rw [hD] at hr hb HZ v2
     have HV2 := Lib.hid v2
     clear hD v1 v2 hv
     by_cases hat : (p : Int) < at'
     ·rw [if_pos hat] at hr
      have H2 := Lib.hid hr
      clear hr
      go_wp2_with fail
      refine (HZ.out _).mono ?_
      rintro e w1 ⟨rfl, rfl⟩
      go_wp2_with fail
      go_round
      case rel => exact ⟨p + D, k + 1, hb.2, by omega, by go_num, by go_num, HV2.out, by have := H2.out; omega⟩
      case measure => simp [RowKit.intOf]; omega
     ·rw [if_neg hat] at hr
      have H2 := Lib.hid hr
      have hat' : at' ≤ (p : Int) := by omega
      clear hr hat
      go_wp2_with fail
      go_ret
      rw [← H2.out]
      exact ⟨rfl, rfl⟩
    ·rw [col_end l p at' (by omega)] at hr
     have HS := Lib.hid hr
     clear hr
     go_wp2_with fail
     go_ret
     rw [← HS.out]
     exact ⟨rfl, rfl⟩
 ·have e : colT l at' = 0 := if_neg hval
  have hval' : validD l = false := by simpa using hval
  rw [e]
  rw [hval'] at HC
  clear e hval hval'
  go_enter Tryz.func207, Tryz.ntmps207
  go_wp2_with fail
  refine (HC.out _).mono ?_
  rintro e w1 ⟨rfl, rfl⟩
  go_wp2_with fail
  go_ret
  exact ⟨rfl, rfl⟩
end Go.Proofs.YtmgchjddpmmglaaGreatDoor
