/-
  Rows of texts of a call's own; append to a row of one's own as one step of a region that draws. No conditions.
  The walk of layer 2's reference (name): texts' names in order. No conditions.
  A slice of texts as an argument: what its reading says of its cells. No conditions.
  The walks of layer 9 (table): not too many texts; whether a list is a table, in the program. No conditions but that unicode/utf8's two tables are as their initialisers lay them.
  The walks of layer 9 (table), the program: a table or not, where a text stands, a copy, a name put in. No conditions but that unicode/utf8's two tables are as their initialisers lay them.
  The walks of layer 9 (table), the program: a table made, a name found, a name put in. No conditions but that unicode/utf8's two tables are as their initialisers lay them.
  A number as what is appended. No conditions.
  Slices of numbers: what one holds, and the walk of the comparison of two. No conditions.
  The walks of layer 9 (table), the program: names' numbers in a table; the chapter's example. No conditions but that unicode/utf8's two tables are as their initialisers lay them.
  The walks of layer 11 (hist): a history in memory; whether an operation, a transaction, the tables may be. No conditions but that unicode/utf8's two tables are as their initialisers lay them.
-/
import Derived.Test.YthgbfaoblnkniaaGreatDoorZb
import Derived.Deep.RegionHeld3
import Derived.Deep.AppendLies
import Derived.OwnWalk
import Derived.Test.YthgbfaoblnkniaaGreatDoorZa
import Derived.Test.YthgbfaoblnkniaaGreatDoorZxNameU
import Derived.SliceStrings
import Derived.Test.YthgbfaoblnkniaaGreatDoorZc
import Derived.Lib.SliceRun
import Derived.Laws.OwnMore
namespace Go.Proofs.YthgbfaoblnkniaaGreatDoor
open Go.RowKit Go.Lib
theorem getD_mem (L : List (List UInt8)) (k : Nat) (h : k < L.length) : L.getD k [] ∈ L := by
 have : L.getD k [] = L[k] := by simp [h]
 rw [this]
 exact List.getElem_mem h
def TextsS (w : World) (v : Value) (L : List (List UInt8)) : Prop := ∃ g cap, v = .slice (some ⟨g, 0, none⟩) L.length cap ∧ L.length ≤ cap ∧ ∀ j, j < L.length → w.cell? ⟨g, j, none⟩ = some (.string (bs (L.getD j [])))
theorem TextsS.below {w w' : World} {v : Value} {L : List (List UInt8)} (h : TextsS w v L) (hb : Below w.heap.size w w') : TextsS w' v L := by
 obtain ⟨g, cap, hv, hc, ht⟩ := h
 exact ⟨g, cap, hv, hc, fun j hj => cell_later hb (ht j hj)⟩
theorem own_textsS {w : World} {B : Nat} {e : TypeId} {v : Value} {L : List (List UInt8)} (h : w.ownsRow B e 1 v L.length (strs L)) (hn : v ≠ .slice none 0 0) : TextsS w v L := by
 obtain ⟨-, ⟨h0, -⟩ | ⟨g, cap, cur, hv, -, hw, hc, -, -, ht⟩⟩ := h
 ·exact absurd h0 hn
 ·refine ⟨g, cap, hv, hc, fun j hj => ?_⟩
  have h1 := congrArg (fun x : List Value => x[j]?) ht
  simp only [Nat.mul_one, List.getElem?_take, hj, if_true, Array.getElem?_toList] at h1
  rw [cell_of_row w g j _ _ (0, 0) hw, h1]
  simp [strs, hj]
theorem step_append_own {P : Program} {w : World} {ops : Array Oper} {o : Oper} {a : Act} {K : Act → World → Prop} {Q : Exit → Act → World → Prop} {E : Prop} (hgd : o.guard = none) (s x : Operand) (t : TypeId)
  (ho : o.op = .call { callee := .builtin .append, args := #[s, x], argTypes := #[t, t] })
  (base : Nat) (e : TypeId) (i : TypeInfo) (z : Value) (size bytes : Nat) (ht : P.underlying t = some (.slice e)) (hi : P.info? e = some i) (hz : i.zero = some z)
  (hsize : i.size = size) (hby : i.bytes = bytes) (hzs : z.cells.size = size) (hsz : 0 < size)
  (v : Value) (n : Nat) (xs : List Value) (hs : a.eval s = v) (hown : w.ownsRow base e size v n xs)
  (ad : Addr) (m c : Nat) (news : List Value) (hx : a.eval x = .slice (some ad) m c) (hl : news.length = m * size) (hnews : ∀ j u, news[j]? = some u → w.cell? (ad.add j) = some u) (h1 : ∀ u ∈ news, u.oneCell' = true)
  (h63 : n + m ≤ maxLen) (hbytes : (n + m) * bytes ≤ 140737488355328) (hbase : base ≤ w.heap.size)
  (h : ∀ v' w', w'.ownsRow base e size v' (n + m) (xs ++ news) → w.grownBy w' v.ownBlock → (v' = .slice none 0 0 ↔ v = .slice none 0 0 ∧ m = 0) → K (a.put o.dst v') w') :
  if Region.wanted o (yielded ops a.tmps) = true then Oper.wp P o a w K Q else E := by
 have hw : Region.wanted o (yielded ops a.tmps) = true := by simp [Region.wanted, hgd]
 rw [if_pos hw]
 exact wp_append_own w s x t ho base e i z size bytes ht hi hz hsize hby hzs hsz v n xs hs hown ad m c news hx hl hnews h1 h63 hbytes hbase h
theorem news_str' (w : World) (x : ByteArray) (e : TypeId) : ∀ (j : Nat) (u : Value), ([.string x] : List Value)[j]? = some u → (w.alloc (.cells #[.string x] e)).cell? ((⟨w.heap.size, 0, none⟩ : Addr).add j) = some u := by
 intro j u hj
 match j, hj with
 | 0, hj => simp at hj; subst hj; simp [Addr.add]
theorem own_empty {w : World} {b B : Nat} (h : w.heap[b]? = some (.cells #[] 9 (0, 0))) (hb : B ≤ b) : w.ownsRow B 9 1 (.slice (some ⟨b, 0, none⟩) 0 0) 0 [] :=
 ⟨rfl, .inr ⟨b, 0, #[], rfl, hb, h, Nat.le_refl _, Nat.zero_le _, rfl, rfl⟩⟩
theorem heap2_new (w : World) (A B : Obj) : ((w.alloc A).alloc B).heap[w.heap.size + 1]? = some B := by
 have h := heap_alloc_new (w.alloc A) B
 rwa [show (w.alloc A).heap.size = w.heap.size + 1 by simp] at h
theorem heap2_old (w : World) (A B : Obj) : ((w.alloc A).alloc B).heap[w.heap.size]? = some A := by
 rw [heap_alloc_old (w.alloc A) B (by simp)]
 exact heap_alloc_new w A
theorem news_block {w : World} {b : Nat} {x : ByteArray} {e : TypeId} (h : w.heap[b]? = some (.cells #[.string x] e (0, 0))) : ∀ (j : Nat) (u : Value), ([.string x] : List Value)[j]? = some u → w.cell? ((⟨b, 0, none⟩ : Addr).add j) = some u := by
 intro j u hj
 rw [Addr.add_lit, Nat.zero_add, cell_of_row w b j _ _ (0, 0) h]
 simpa using hj
theorem ones_one (x : ByteArray) : ∀ u ∈ ([.string x] : List Value), u.oneCell' = true := by
 intro u hu
 simp at hu
 subst hu
 rfl
theorem keep_alloc {a W : World} (h : Below a.heap.size a W) (o : Obj) : Below a.heap.size a (W.alloc o) := h.alloc h.size o
theorem keep_grown {a W W' : World} {v : Value} {n : Nat} {xs : List Value} {e : TypeId} {z : Nat} (h : Below a.heap.size a W) (hown : W.ownsRow a.heap.size e z v n xs) (hg : W.grownBy W' v.ownBlock) : Below a.heap.size a W' :=
 h.grown hg h.size (fun k hk => (hown.lt k hk).1)
theorem cells_from (W : World) (g o : Nat) (S : List (List UInt8)) (h : ∀ q, q < S.length → W.cell? ⟨g, o + q, none⟩ = some (.string (bs (S.getD q [])))) : ∀ (j : Nat) (u : Value), (strs S)[j]? = some u → W.cell? ((⟨g, o, none⟩ : Addr).add j) = some u := by
 intro j u hj
 have hjl : j < S.length := by
  have := (List.getElem?_eq_some_iff.1 hj).1
  simpa [strs] using this
 rw [Addr.add_lit, h j hjl, ← hj]
 simp [strs, hjl]
theorem ones_strs (S : List (List UInt8)) : ∀ u ∈ strs S, u.oneCell' = true := by
 intro u hu
 obtain ⟨x, -, rfl⟩ := List.mem_map.1 hu
 rfl
end Go.Proofs.YthgbfaoblnkniaaGreatDoor

namespace Go.Proofs.YthgbfaoblnkniaaGreatDoor
open Go.RowKit Go.Lib
def sortK (L : List (List UInt8)) (k : Nat) : List (List UInt8) := sortedN (L.take k)
theorem sortK_next (L : List (List UInt8)) (k : Nat) (hk : k < L.length) : sortK L (k + 1) = if nameL (L.getD k []) then insN (L.getD k []) (sortK L k) else sortK L k := by
 have e : L.take (k + 1) = L.take k ++ [L.getD k []] := by
  rw [List.take_add_one]
  simp [hk]
 unfold sortK sortedN
 rw [e, List.foldl_append]
 rfl
theorem ins_len (x : List UInt8) : ∀ r, (insN x r).length ≤ r.length + 1
 | [] => by simp [insN]
 | y :: r => by
  unfold insN
  split
  ·have := ins_len x r
   simp only [List.length_cons]; omega
  ·split <;> simp only [List.length_cons] <;> omega
theorem sortK_len (L : List (List UInt8)) : ∀ k, k ≤ L.length → (sortK L k).length ≤ k
 | 0, _ => by simp [sortK, sortedN]
 | k + 1, h => by
  have ih := sortK_len L k (by omega)
  rw [sortK_next L k (by omega)]
  split
  ·have := ins_len (L.getD k []) (sortK L k); omega
  ·omega
theorem sortK_mem (L : List (List UInt8)) (k : Nat) : ∀ x ∈ sortK L k, x ∈ L := fun x hx => List.mem_of_mem_take ((sortedN_spec (L.take k)).2 x |>.1 hx).1
set_option maxRecDepth 100000 in
set_option maxHeartbeats 4000000 in
theorem rsorted_new (w : World) (v : Value) (L : List (List UInt8)) (h : Texts w v L) (hL : L.length ≤ 100000) (hs : ∀ x ∈ L, x.length ≤ 1000000) :
  Calls Tryz.prog 56 #[v] w fun e w' => ∃ v', e = .returned v' ∧ TextsS w' v' (sortedN L) ∧ (∀ g, v'.ownBlock = some g → w.heap.size ≤ g) ∧ Below w.heap.size w w' := by
 obtain ⟨p, cap, rfl, ht⟩ := h
 have HX := Lib.hid ht
 have HS := Lib.hid hs
 clear ht hs
 obtain ⟨i0, hi, hz0, hz1, hz2⟩ := info_parts info_str
 go_enter Tryz.func56, Tryz.ntmps56
 go_wp2_with fail
 go_loopw [3, 4] (fun out i wr => ∃ k : Nat, k ≤ L.length ∧ i = .int .i64 k ∧ TextsS wr out (sortK L k) ∧ Below w.heap.size w wr ∧ RowKit.Hid (∀ g, out.ownBlock = some g → w.heap.size ≤ g)) (fun _ i _ => L.length - (RowKit.intOf i).toNat)
 case atStart => exact ⟨0, Nat.zero_le _, rfl, ⟨_, _, rfl, Nat.le_refl _, fun j hj => absurd hj (Nat.not_lt_zero j)⟩, (Below.refl _ _).alloc (Nat.le_refl _) _, Lib.hid (fun g e => by simp [Value.ownBlock] at e; omega)⟩
 case round =>
  obtain ⟨k, hk, rfl, hout, hbw, HNW⟩ := hrel
  by_cases hlt : k < L.length
  ·obtain ⟨gl, rfl, hc⟩ := HX.out k hlt
   have hc' := cell_later hbw hc
   have hnx := sortK_next L k hlt
   have hxl := HS.out _ (getD_mem L k hlt)
   have hslen := sortK_len L k hk
   have hsl : ∀ x ∈ sortK L k, x.length ≤ 1000000 := fun x hx => HS.out x (sortK_mem L k x hx)
   have HI := Lib.hid (ris_any (L.getD k []) hxl)
   obtain ⟨x, hx⟩ : ∃ x, L.getD k [] = x := ⟨_, rfl⟩
   rw [hx] at hc' hnx hxl HI
   obtain ⟨S, hS⟩ : ∃ S, sortK L k = S := ⟨_, rfl⟩
   rw [hS] at hout hnx hslen hsl
   clear hc hx hS
   obtain ⟨go, co, rfl, hco, hcells⟩ := hout
   have HC := Lib.hid hcells
   have HSL := Lib.hid hsl
   clear hcells hsl
   cases hn : nameL x with
   | false =>
    rw [hn] at hnx HI
    simp only [Bool.false_eq_true, if_false] at hnx
    have HN := Lib.hid hnx
    clear hnx hn
    go_wp2_with fail
    refine (HI.out _).mono ?_
    rintro e w1 ⟨rfl, hb1⟩
    go_wp2_with fail
    go_roundw
    case rel => exact ⟨k + 1, by omega, by go_num, by rw [HN.out]; exact ⟨go, co, rfl, hco, fun j hj => cell_later hb1 (HC.out j hj)⟩, below_next hbw hb1, HNW⟩
    case measure => simp [RowKit.intOf]; omega
   | true =>
    rw [hn] at hnx HI
    simp only [if_true] at hnx
    obtain ⟨q1, q2, q3, q4⟩ := ins_at x S
    rw [q4] at hnx
    have HN := Lib.hid hnx
    have HQ := Lib.hid q2
    have HQ3 := Lib.hid q3
    generalize aheadN x S = A at *
    clear hnx hn q4 q2 q3
    go_wp2_with fail
    refine (HI.out _).mono ?_
    rintro e w1 ⟨rfl, hb1⟩
    have hc1 := cell_later hb1 hc'
    have HC1 : RowKit.Hid (∀ j, j < S.length → w1.cell? ⟨go, j, none⟩ = some (.string (bs (S.getD j [])))) := Lib.hid (fun j hj => cell_later hb1 (HC.out j hj))
    have hb01 := below_next hbw hb1
    clear HC HI hb1 hc'
    go_wp2_with fail
    go_loopw [5] (fun a wa => ∃ j : Nat, j ≤ A ∧ a = .int .i64 j ∧ Below w1.heap.size w1 wa) (fun a _ => A - (RowKit.intOf a).toNat)
    case atStart => exact ⟨0, Nat.zero_le _, rfl, Below.refl _ _⟩
    case round =>
     obtain ⟨j, hj, rfl, hba⟩ := hrel
     have hc2 := cell_later hba hc1
     by_cases hjA : j < A
     ·have hcj := cell_later hba (HC1.out j (by omega))
      have hlj := HSL.out _ (getD_mem S j (by omega))
      have hq := HQ.out j hjA
      have HLt := Lib.hid (rless_any (S.getD j []) x hlj hxl)
      have hq' : lexLess (runesU (S.getD j [])) (runesU x) = true := hq
      rw [hq'] at HLt
      generalize S.getD j [] = y at *
      have hjS : j < S.length := by omega
      clear hq hq'
      go_wp2_with fail
      go_region_held3 (fun w' => w'.cell? ⟨go, j, none⟩ = some (.string (bs y)) ∧ w'.cell? ⟨gl, k, none⟩ = some (.string (bs x)) ∧ Below wr.heap.size wr w')
       (first | ((repeat' (refine And.intro ?_ ?_)) <;> (first | (go_simp; done) | (go_grown; done))) | (go_split_ands; (repeat' (refine And.intro ?_ ?_)) <;> (first | exact cell_later (by assumption) (by assumption) | (refine below_next ?_ (by assumption); assumption))))
       (first | (go_at_call 60; refine (HLt.out _).mono ?_; rintro e w3 ⟨rfl, hb3⟩))
      go_wp2_with fail
      go_roundw
      case rel => exact ⟨j + 1, by omega, by go_num, by go_split_ands; exact below_next hba (by assumption)⟩
      case measure => simp [RowKit.intOf]; omega
     ·obtain rfl : j = A := by omega
      by_cases hAS : j < S.length
      ·have hcj := cell_later hba (HC1.out j hAS)
       have hlj := HSL.out _ (getD_mem S j hAS)
       have hq := HQ3.out hAS
       have HLt := Lib.hid (rless_any (S.getD j []) x hlj hxl)
       have hq' : lexLess (runesU (S.getD j [])) (runesU x) = false := hq
       rw [hq'] at HLt
       obtain ⟨y, hy⟩ : ∃ y, S.getD j [] = y := ⟨_, rfl⟩
       rw [hy] at HLt hcj
       have HY := Lib.hid hy
       clear hq hq' hy hlj
       go_wp2_with fail
       go_region_held3 (fun w' => w'.cell? ⟨go, j, none⟩ = some (.string (bs y)) ∧ w'.cell? ⟨gl, k, none⟩ = some (.string (bs x)) ∧ Below wr.heap.size wr w')
        (first | ((repeat' (refine And.intro ?_ ?_)) <;> (first | (go_simp; done) | (go_grown; done))) | (go_split_ands; (repeat' (refine And.intro ?_ ?_)) <;> (first | exact cell_later (by assumption) (by assumption) | (refine below_next ?_ (by assumption); assumption))))
        (first | (go_at_call 60; refine (HLt.out _).mono ?_; rintro e w3 ⟨rfl, hb3⟩))
       go_split_ands
       have hb3' : Below wr.heap.size wr w3 := by assumption
       have hb13 := below_next hba hb3'
       have k1 : w3.cell? ⟨go, j, none⟩ = some (.string (bs y)) := by assumption
       have k2 : w3.cell? ⟨gl, k, none⟩ = some (.string (bs x)) := by assumption
       by_cases hyx : y = x
       ·subst hyx
        have hN2 := HN.out
        rw [if_pos ⟨hAS, HY.out⟩] at hN2
        have HN2 := Lib.hid hN2
        clear hN2
        go_wp2_with fail
        go_region
        go_wp2_with fail
        go_roundw
        case rel => exact ⟨k + 1, by omega, by go_num, by rw [HN2.out]; exact ⟨go, co, rfl, hco, fun q hq => cell_later hb13.drew (HC1.out q hq)⟩, below_next hb01 hb13.drew, HNW⟩
        case measure => simp [RowKit.intOf]; omega
       ·have hN2 := HN.out
        rw [if_neg (fun h => hyx (HY.out.symm.trans h.2))] at hN2
        have HN2 := Lib.hid hN2
        have HC3 : RowKit.Hid (∀ q, q < S.length → w3.drew.cell? ⟨go, q, none⟩ = some (.string (bs (S.getD q [])))) := Lib.hid (fun q hq => cell_later hb13.drew (HC1.out q hq))
        have hyx' : (y == x) = false := beq_eq_false_iff_ne.2 hyx
        have hb03 := below_next hb01 hb13.drew
        have hjc : j ≤ co := by omega
        clear hN2
        go_wp2_with fail
        go_region
        go_wp2_with fail
        have k3 : w3.drew.cell? ⟨gl, k, none⟩ = some (.string (bs x)) := k2
        generalize w3.drew = wx at *
        have HTake : RowKit.Hid (∀ q, q < (S.take j).length → wx.cell? ⟨go, 0 + q, none⟩ = some (.string (bs ((S.take j).getD q [])))) := Lib.hid (fun q hq => by
         rw [List.length_take] at hq
         rw [Nat.zero_add, HC3.out q (by omega)]
         simp [List.getD, show q < j by omega])
        have HDrop : RowKit.Hid (∀ q, q < (S.drop j).length → wx.cell? ⟨go, j + q, none⟩ = some (.string (bs ((S.drop j).getD q [])))) := Lib.hid (fun q hq => by
         rw [List.length_drop] at hq
         rw [HC3.out (j + q) (by omega)]
         simp [List.getD, List.getElem?_drop])
        have hcne : ¬ (co = j) := by omega
        clear k1 k2 hb3 hb3' hb13
        go_region_held3 (fun w' => w'.cell? ⟨gl, k, none⟩ = some (.string (bs x)) ∧ Below wx.heap.size wx w')
         (first | exact ⟨cell_later (by assumption) k3, by assumption⟩ | (go_split_ands; first | exact ⟨cell_later (by assumption) k3, by assumption⟩ | exact ⟨cell_later (keep_alloc (by assumption) _) k3, keep_alloc (by assumption) _⟩ | exact ⟨cell_later (Below.drew (keep_alloc (by assumption) _)) k3, Below.drew (keep_alloc (by assumption) _)⟩) | exact ⟨k3, Below.drew (Below.refl _ _)⟩ | exact ⟨k3, Below.refl _ _⟩)
         (first
          | (((go_split_ands; refine step_append_own (by rfl) _ _ 22 (by rfl) wx.heap.size 9 i0 (.string ByteArray.empty) 1 16 Tryz.underlying22 hi hz0 hz1 hz2 rfl (by decide) (.slice (some ⟨_, 0, none⟩) 0 0) 0 [] (by rfl) (by first | exact own_empty (heap_alloc_new _ _) (Nat.le_refl _) | exact own_empty (heap2_new _ _ _) (Nat.le_succ _) | exact own_empty (heap2_old _ _ _) (Nat.le_refl _)) ⟨go, 0, none⟩ j co (strs (S.take j)) (by rfl) (by simp only [strs, List.length_map, List.length_take]; omega) (cells_from _ go 0 (S.take j) (fun q hq => cell_later (by assumption) (HTake.out q hq))) (ones_strs _) (by unfold maxLen; omega) (by omega) (Below.size (by assumption)) ?_); intro v4 w4 hown4 hgrow4 hnil4; have hbw4 := keep_grown (by assumption) (by first | exact own_empty (heap_alloc_new _ _) (Nat.le_refl _) | exact own_empty (heap2_new _ _ _) (Nat.le_succ _) | exact own_empty (heap2_old _ _ _) (Nat.le_refl _)) hgrow4))
          | (((go_split_ands; refine step_append_own (by rfl) _ _ 22 (by rfl) wx.heap.size 9 i0 (.string ByteArray.empty) 1 16 Tryz.underlying22 hi hz0 hz1 hz2 rfl (by decide) v4 (0 + j) _ (by rfl) (by first | exact hown4 | exact hown4.alloc _) _ 1 1 ([.string (bs x)]) (by rfl) (rfl) (by first | exact news_str' _ _ _ | exact news_block (by first | (rw [hgrow4.block _ (by first | (simp; done) | (simp; omega)) (by first | (simp [Value.ownBlock]; done) | (simp [Value.ownBlock]; omega))]; first | exact heap2_new _ _ _ | exact heap2_old _ _ _))) (ones_one _) (by unfold maxLen; omega) (by omega) (Below.size (by assumption)) ?_); intro v6 w6 hown6 hgrow6 hnil6; have hbw6 := keep_grown (by assumption) (by first | exact hown4 | exact hown4.alloc _) hgrow6))
          | (((go_split_ands; refine step_append_own (by rfl) _ _ 22 (by rfl) wx.heap.size 9 i0 (.string ByteArray.empty) 1 16 Tryz.underlying22 hi hz0 hz1 hz2 rfl (by decide) v6 (0 + j + 1) _ (by rfl) (hown6) ⟨go, j, none⟩ (S.length - j) (co - j) (strs (S.drop j)) (by rfl) (by simp only [strs, List.length_map, List.length_drop, Nat.mul_one]) (cells_from _ go j (S.drop j) (fun q hq => cell_later (by assumption) (HDrop.out q hq))) (ones_strs _) (by unfold maxLen; omega) (by omega) (Below.size (by assumption)) ?_); intro v8 w8 hown8 hgrow8 hnil8; have hbw8 := keep_grown (by assumption) (hown6) hgrow8)))
        all_goals
         go_split_ands
         have hbf : Below w.heap.size w w8 := below_next hb03 (by assumption)
         have hn6 : v6 ≠ .slice none 0 0 := fun h => by have := hnil6.1 h; simp at this
         have hn8 : v8 ≠ .slice none 0 0 := fun h => hn6 (hnil8.1 h).1
         have hcat : [] ++ strs (S.take j) ++ [.string (bs x)] ++ strs (S.drop j) = strs (S.take j ++ x :: S.drop j) := by simp [strs]
         have hlen : 0 + j + 1 + (S.length - j) = (S.take j ++ x :: S.drop j).length := by
          rw [List.length_append, List.length_cons, List.length_take, List.length_drop]
          omega
         rw [hcat, hlen] at hown8
         have HNew : RowKit.Hid (∀ g, v8.ownBlock = some g → w.heap.size ≤ g) := Lib.hid (fun g e => Nat.le_trans (Below.size hb03) (hown8.lt g e).1)
         have HO := Lib.hid (own_textsS hown8 hn8)
         clear hown8 hn8 hn6 hnil8 hnil6 hnil4
         go_wp2_with fail
         go_roundw
         case rel => exact ⟨k + 1, by omega, by go_num, by rw [HN2.out]; exact HO.out, hbf, HNew⟩
         case measure => simp [RowKit.intOf]; omega
      ·obtain rfl : j = S.length := by omega
       have hN2 := HN.out
       rw [if_neg (fun h => hAS h.1), List.take_length, List.drop_length] at hN2
       have HN2 := Lib.hid hN2
       clear hN2 hAS hjA
       go_wp2_with fail
       go_quiet (fail)
       have hbq : Below w1.heap.size w1 (wr.drewN nq) := hba.trans ⟨rfl, rfl, rfl, Nat.le_refl _, fun _ _ => rfl⟩
       generalize wr.drewN nq = wq at *
       go_wp2_with fail
       go_quiet (fail)
       have hbz : Below w1.heap.size w1 (wq.drewN nq) := hbq.trans ⟨rfl, rfl, rfl, Nat.le_refl _, fun _ _ => rfl⟩
       generalize wq.drewN nq = wx at *
       go_wp2_with fail
       have hb03 := below_next hb01 hbz
       have HTake : RowKit.Hid (∀ q, q < S.length → wx.cell? ⟨go, 0 + q, none⟩ = some (.string (bs (S.getD q [])))) := Lib.hid (fun q hq => by
        rw [Nat.zero_add]
        exact cell_later hbz (HC1.out q hq))
       have k3 : wx.cell? ⟨gl, k, none⟩ = some (.string (bs x)) := cell_later hbz hc1
       clear hba hbq hbz hc2
       by_cases hcj : co = S.length
       ·subst hcj
        go_region_held3 (fun w' => w'.cell? ⟨gl, k, none⟩ = some (.string (bs x)) ∧ Below wx.heap.size wx w')
         (first | exact ⟨cell_later (by assumption) k3, by assumption⟩ | (go_split_ands; first | exact ⟨cell_later (by assumption) k3, by assumption⟩ | exact ⟨cell_later (keep_alloc (by assumption) _) k3, keep_alloc (by assumption) _⟩ | exact ⟨cell_later (Below.drew (keep_alloc (by assumption) _)) k3, Below.drew (keep_alloc (by assumption) _)⟩) | exact ⟨k3, Below.drew (Below.refl _ _)⟩ | exact ⟨k3, Below.refl _ _⟩)
         (first
          | (((go_split_ands; refine step_append_own (by rfl) _ _ 22 (by rfl) wx.heap.size 9 i0 (.string ByteArray.empty) 1 16 Tryz.underlying22 hi hz0 hz1 hz2 rfl (by decide) (.slice (some ⟨_, 0, none⟩) 0 0) 0 [] (by rfl) (by first | exact own_empty (heap_alloc_new _ _) (Nat.le_refl _) | exact own_empty (heap2_new _ _ _) (Nat.le_succ _) | exact own_empty (heap2_old _ _ _) (Nat.le_refl _)) ⟨go, 0, none⟩ S.length S.length (strs S) (by rfl) (by simp only [strs, List.length_map, Nat.mul_one]) (cells_from _ go 0 S (fun q hq => cell_later (by assumption) (HTake.out q hq))) (ones_strs _) (by unfold maxLen; omega) (by omega) (Below.size (by assumption)) ?_); intro v4 w4 hown4 hgrow4 hnil4; have hbw4 := keep_grown (by assumption) (by first | exact own_empty (heap_alloc_new _ _) (Nat.le_refl _) | exact own_empty (heap2_new _ _ _) (Nat.le_succ _) | exact own_empty (heap2_old _ _ _) (Nat.le_refl _)) hgrow4))
          | (((go_split_ands; refine step_append_own (by rfl) _ _ 22 (by rfl) wx.heap.size 9 i0 (.string ByteArray.empty) 1 16 Tryz.underlying22 hi hz0 hz1 hz2 rfl (by decide) v4 (0 + S.length) _ (by rfl) (by first | exact hown4 | exact hown4.alloc _) _ 1 1 ([.string (bs x)]) (by rfl) (rfl) (by first | exact news_str' _ _ _ | exact news_block (by first | (rw [hgrow4.block _ (by first | (simp; done) | (simp; omega)) (by first | (simp [Value.ownBlock]; done) | (simp [Value.ownBlock]; omega))]; first | exact heap2_new _ _ _ | exact heap2_old _ _ _))) (ones_one _) (by unfold maxLen; omega) (by omega) (Below.size (by assumption)) ?_); intro v6 w6 hown6 hgrow6 hnil6; have hbw6 := keep_grown (by assumption) (by first | exact hown4 | exact hown4.alloc _) hgrow6))
          | (((go_split_ands; refine step_append_own (by rfl) _ _ 22 (by rfl) wx.heap.size 9 i0 (.string ByteArray.empty) 1 16 Tryz.underlying22 hi hz0 hz1 hz2 rfl (by decide) v6 (0 + S.length + 1) _ (by rfl) (hown6) ⟨go, 0, none⟩ 0 0 ([]) (by rfl) (rfl) (fun j u hj => by simp at hj) (fun u hu => by simp at hu) (by unfold maxLen; omega) (by omega) (Below.size (by assumption)) ?_); intro v8 w8 hown8 hgrow8 hnil8; have hbw8 := keep_grown (by assumption) (hown6) hgrow8)))
        all_goals
         go_split_ands
         have hbf : Below w.heap.size w w8 := below_next hb03 (by assumption)
         have hn6 : v6 ≠ .slice none 0 0 := fun h => by have := hnil6.1 h; simp at this
         have hn8 : v8 ≠ .slice none 0 0 := fun h => hn6 (hnil8.1 h).1
         have hcat : [] ++ strs S ++ [.string (bs x)] ++ [] = strs (S ++ [x]) := by simp [strs]
         have hlen : 0 + S.length + 1 + 0 = (S ++ [x]).length := by
          rw [List.length_append]
          simp
         rw [hcat, hlen] at hown8
         have HNew : RowKit.Hid (∀ g, v8.ownBlock = some g → w.heap.size ≤ g) := Lib.hid (fun g e => Nat.le_trans (Below.size hb03) (hown8.lt g e).1)
         have HO := Lib.hid (own_textsS hown8 hn8)
         clear hown8 hn8 hn6 hnil8 hnil6 hnil4
         go_wp2_with fail
         go_roundw
         case rel => exact ⟨k + 1, by omega, by go_num, by rw [HN2.out]; exact HO.out, hbf, HNew⟩
         case measure => simp [RowKit.intOf]; omega
       ·have hcne : ¬ (co = S.length) := hcj
        go_region_held3 (fun w' => w'.cell? ⟨gl, k, none⟩ = some (.string (bs x)) ∧ Below wx.heap.size wx w')
         (first | exact ⟨cell_later (by assumption) k3, by assumption⟩ | (go_split_ands; first | exact ⟨cell_later (by assumption) k3, by assumption⟩ | exact ⟨cell_later (keep_alloc (by assumption) _) k3, keep_alloc (by assumption) _⟩ | exact ⟨cell_later (Below.drew (keep_alloc (by assumption) _)) k3, Below.drew (keep_alloc (by assumption) _)⟩) | exact ⟨k3, Below.drew (Below.refl _ _)⟩ | exact ⟨k3, Below.refl _ _⟩)
         (first
          | (((go_split_ands; refine step_append_own (by rfl) _ _ 22 (by rfl) wx.heap.size 9 i0 (.string ByteArray.empty) 1 16 Tryz.underlying22 hi hz0 hz1 hz2 rfl (by decide) (.slice (some ⟨_, 0, none⟩) 0 0) 0 [] (by rfl) (by first | exact own_empty (heap_alloc_new _ _) (Nat.le_refl _) | exact own_empty (heap2_new _ _ _) (Nat.le_succ _) | exact own_empty (heap2_old _ _ _) (Nat.le_refl _)) ⟨go, 0, none⟩ S.length co (strs S) (by rfl) (by simp only [strs, List.length_map, Nat.mul_one]) (cells_from _ go 0 S (fun q hq => cell_later (by assumption) (HTake.out q hq))) (ones_strs _) (by unfold maxLen; omega) (by omega) (Below.size (by assumption)) ?_); intro v4 w4 hown4 hgrow4 hnil4; have hbw4 := keep_grown (by assumption) (by first | exact own_empty (heap_alloc_new _ _) (Nat.le_refl _) | exact own_empty (heap2_new _ _ _) (Nat.le_succ _) | exact own_empty (heap2_old _ _ _) (Nat.le_refl _)) hgrow4))
          | (((go_split_ands; refine step_append_own (by rfl) _ _ 22 (by rfl) wx.heap.size 9 i0 (.string ByteArray.empty) 1 16 Tryz.underlying22 hi hz0 hz1 hz2 rfl (by decide) v4 (0 + S.length) _ (by rfl) (by first | exact hown4 | exact hown4.alloc _) _ 1 1 ([.string (bs x)]) (by rfl) (rfl) (by first | exact news_str' _ _ _ | exact news_block (by first | (rw [hgrow4.block _ (by first | (simp; done) | (simp; omega)) (by first | (simp [Value.ownBlock]; done) | (simp [Value.ownBlock]; omega))]; first | exact heap2_new _ _ _ | exact heap2_old _ _ _))) (ones_one _) (by unfold maxLen; omega) (by omega) (Below.size (by assumption)) ?_); intro v6 w6 hown6 hgrow6 hnil6; have hbw6 := keep_grown (by assumption) (by first | exact hown4 | exact hown4.alloc _) hgrow6))
          | (((go_split_ands; refine step_append_own (by rfl) _ _ 22 (by rfl) wx.heap.size 9 i0 (.string ByteArray.empty) 1 16 Tryz.underlying22 hi hz0 hz1 hz2 rfl (by decide) v6 (0 + S.length + 1) _ (by rfl) (hown6) ⟨go, S.length, none⟩ 0 (co - S.length) ([]) (by rfl) (rfl) (fun j u hj => by simp at hj) (fun u hu => by simp at hu) (by unfold maxLen; omega) (by omega) (Below.size (by assumption)) ?_); intro v8 w8 hown8 hgrow8 hnil8; have hbw8 := keep_grown (by assumption) (hown6) hgrow8)))
        all_goals
         go_split_ands
         have hbf : Below w.heap.size w w8 := below_next hb03 (by assumption)
         have hn6 : v6 ≠ .slice none 0 0 := fun h => by have := hnil6.1 h; simp at this
         have hn8 : v8 ≠ .slice none 0 0 := fun h => hn6 (hnil8.1 h).1
         have hcat : [] ++ strs S ++ [.string (bs x)] ++ [] = strs (S ++ [x]) := by simp [strs]
         have hlen : 0 + S.length + 1 + 0 = (S ++ [x]).length := by
          rw [List.length_append]
          simp
         rw [hcat, hlen] at hown8
         have HNew : RowKit.Hid (∀ g, v8.ownBlock = some g → w.heap.size ≤ g) := Lib.hid (fun g e => Nat.le_trans (Below.size hb03) (hown8.lt g e).1)
         have HO := Lib.hid (own_textsS hown8 hn8)
         clear hown8 hn8 hn6 hnil8 hnil6 hnil4
         go_wp2_with fail
         go_roundw
         case rel => exact ⟨k + 1, by omega, by go_num, by rw [HN2.out]; exact HO.out, hbf, HNew⟩
         case measure => simp [RowKit.intOf]; omega
  ·have hke : k = L.length := by omega
   subst hke
   have e : sortK L L.length = sortedN L := by unfold sortK; rw [List.take_length]
   rw [e] at hout
   have HO := Lib.hid hout
   clear hout e
   go_wp2_with fail
   go_ret
   exact ⟨_, rfl, HO.out, HNW.out, hbw⟩
theorem rsorted_any (w : World) (v : Value) (L : List (List UInt8)) (h : Texts w v L) (hL : L.length ≤ 100000) (hs : ∀ x ∈ L, x.length ≤ 1000000) :
  Calls Tryz.prog 56 #[v] w fun e w' => ∃ v', e = .returned v' ∧ TextsS w' v' (sortedN L) ∧ Below w.heap.size w w' :=
 (rsorted_new w v L h hL hs).mono (fun _ _ ⟨v', h1, h2, _, h3⟩ => ⟨v', h1, h2, h3⟩)
end Go.Proofs.YthgbfaoblnkniaaGreatDoor

namespace Go.Proofs.YthgbfaoblnkniaaGreatDoor
open Go.ChangeShapes Go.WideShapes Go.ChangeAt Go.RowKit
def ArgTx (w : World) (v : Value) (L : List (List UInt8)) : Prop := ∃ p cap, v = .slice p L.length cap ∧ ∀ i, i < L.length → ∃ a : Addr, p = some a ∧ w.cell? (a.add i) = some (.string (bs (L.getD i [])))
end Go.Proofs.YthgbfaoblnkniaaGreatDoor

namespace Go.Proofs.YthgbfaoblnkniaaGreatDoor
open Go.RowKit Go.Lib
theorem ArgTx.below {w w' : World} {v : Value} {L : List (List UInt8)} (h : ArgTx w v L) (hb : Below w.heap.size w w') : ArgTx w' v L := by
 obtain ⟨p, cap, hv, hc⟩ := h
 refine ⟨p, cap, hv, fun j hj => ?_⟩
 obtain ⟨a, rfl, h1⟩ := hc j hj
 exact ⟨a, rfl, cell_later hb h1⟩
end Go.Proofs.YthgbfaoblnkniaaGreatDoor

namespace Go.Proofs.YthgbfaoblnkniaaGreatDoor
open Go.RowKit Go.Lib
set_option maxRecDepth 100000 in
set_option maxHeartbeats 1000000 in
theorem index_any (w : World) (v : Value) (L : List (List UInt8)) (s : List UInt8) (hv : Texts w v L) (hL : L.length ≤ 1000000) :
  Calls Tryz.prog 83 #[v, .string (bs s)] w fun e w' => e = .returned (.int .i64 (idxI L s)) ∧ w = w' := by
 obtain ⟨p, c, rfl, hp⟩ := hv
 have HX := Lib.hid hp
 have HA := Lib.hid (idxI_at L s)
 have HZ := Lib.hid (idxI_none L s)
 obtain ⟨R, hR⟩ : ∃ R, idxI L s = R := ⟨_, rfl⟩
 rw [hR] at HA HZ ⊢
 clear hp hR
 go_enter Tryz.func83, Tryz.ntmps83
 go_wp2_with fail
 go_loopw [8] (fun i wr => ∃ k : Nat, k ≤ L.length ∧ i = .int .i64 k ∧ wr = w ∧ ∀ j, j < k → L.getD j [] ≠ s) (fun i _ => L.length - (RowKit.intOf i).toNat)
 case atStart => exact ⟨0, Nat.zero_le _, rfl, rfl, fun j hj => absurd hj (Nat.not_lt_zero j)⟩
 case round =>
  obtain ⟨k, hk, rfl, rfl, hn⟩ := hrel
  have HN := Lib.hid hn
  clear hn
  by_cases hlt : k < L.length
  ·obtain ⟨g, rfl, hc⟩ := HX.out k hlt
   by_cases he : L.getD k [] = s
   ·have H1 := Lib.hid (HA.out k hlt he HN.out)
    rw [he] at hc
    clear he
    go_wp2_with fail
    go_ret
    exact ⟨by rw [H1.out]; rfl, rfl⟩
   ·obtain ⟨x, hx⟩ : ∃ x, L.getD k [] = x := ⟨_, rfl⟩
    have he0 : L.getD k [] ≠ s := he
    have H1 : RowKit.Hid (∀ j, j < k + 1 → L.getD j [] ≠ s) := Lib.hid (by
     intro j hj
     by_cases hjk : j < k
     ·exact HN.out j hjk
     ·obtain rfl : j = k := by omega
      exact he0)
    rw [hx] at hc he
    have e1 : (s == x) = false := beq_eq_false_iff_ne.2 fun e => he e.symm
    clear he0 he hx
    go_wp2_with fail
    go_roundw
    case rel => exact ⟨k + 1, by omega, by go_num, trivial, H1.out⟩
    case measure => simp [RowKit.intOf]; omega
  ·have hke : k = L.length := by omega
   subst hke
   have H1 := Lib.hid (HZ.out HN.out)
   go_wp2_with fail
   go_ret
   exact ⟨by rw [H1.out]; rfl, rfl⟩
theorem good_len (L : List (List UInt8)) (k : Nat) (hs : ∀ x ∈ L, x.length ≤ 1000000) : (L.getD k []).length ≤ 1000000 := by
 by_cases h : k < L.length
 ·exact hs _ (getD_mem L k h)
 ·rw [List.getD_eq_getElem?_getD, List.getElem?_eq_none (by omega)]
  simp
set_option maxRecDepth 100000 in
set_option maxHeartbeats 2000000 in
theorem tis_any (w : World) (v : Value) (L : List (List UInt8)) (hv : Texts w v L) (hL : L.length ≤ 1000000) (hs : ∀ x ∈ L, x.length ≤ 1000000) (hT : Lib.Utf8Tabs 1 2 w) :
  Calls Tryz.prog 62 #[v] w fun e w' => e = .returned (.bool (isT L)) ∧ Below w.heap.size w w' := by
 obtain ⟨p, c, rfl, hp⟩ := hv
 have HX := Lib.hid hp
 have HS := Lib.hid hs
 have HT := Lib.hid hT
 have HA := Lib.hid (isT_no L)
 have HZ := Lib.hid (isT_yes L)
 obtain ⟨R, hR⟩ : ∃ R, isT L = R := ⟨_, rfl⟩
 rw [hR] at HA HZ ⊢
 clear hp hs hT hR
 go_enter Tryz.func62, Tryz.ntmps62
 go_wp2_with fail
 go_loopw [7] (fun i wr => ∃ k : Nat, k ≤ L.length ∧ i = .int .i64 k ∧ (∀ j, j < k → goodT L j = true) ∧ Below w.heap.size w wr) (fun i _ => L.length - (RowKit.intOf i).toNat)
 case atStart => exact ⟨0, Nat.zero_le _, rfl, fun j hj => absurd hj (Nat.not_lt_zero j), Below.refl _ _⟩
 case round =>
  obtain ⟨k, hk, rfl, hn, hbw⟩ := hrel
  have HN := Lib.hid hn
  clear hn
  by_cases hlt : k < L.length
  ·have HTr := Lib.hid (Utf8Tabs_below HT.out hbw)
   have hstep : goodT L k = true → ∀ j, j < k + 1 → goodT L j = true := fun hg j hj => by
    by_cases hjk : j < k
    ·exact HN.out j hjk
    ·obtain rfl : j = k := by omega
     exact hg
   have HStep := Lib.hid hstep
   have HNo := Lib.hid (HA.out k hlt)
   clear hstep
   cases k with
   | zero =>
    obtain ⟨g, rfl, hc⟩ := HX.out 0 hlt
    have hc' := cell_later hbw hc
    have HI := Lib.hid (nis_any (L.getD 0 []) (good_len L 0 HS.out))
    have hg0 := good_first L
    obtain ⟨x, hx⟩ : ∃ x, L.getD 0 [] = x := ⟨_, rfl⟩
    rw [hx] at hc' HI hg0
    clear hc hx
    cases hnx : nameL x with
    | false =>
     rw [hnx] at HI hg0
     have H1 := Lib.hid (HNo.out hg0)
     clear hnx hg0
     go_wp2_with fail
     refine (HI.out _ HTr.out).mono ?_
     rintro e w1 ⟨rfl, hb1⟩
     go_wp2_with fail
     go_ret
     exact ⟨by rw [H1.out]; rfl, below_next hbw hb1⟩
    | true =>
     rw [hnx] at HI hg0
     have H1 := Lib.hid (HStep.out hg0)
     clear hnx hg0
     go_wp2_with fail
     refine (HI.out _ HTr.out).mono ?_
     rintro e w1 ⟨rfl, hb1⟩
     go_wp2_with fail
     go_roundw
     case rel => exact ⟨1, by omega, rfl, H1.out, below_next hbw hb1⟩
     case measure => simp [RowKit.intOf]; omega
   | succ q =>
    obtain ⟨g, rfl, hc⟩ := HX.out (q + 1) hlt
    obtain ⟨g', hg', hd⟩ := HX.out q (by omega)
    obtain rfl : g = g' := by simpa using hg'
    have hc' := cell_later hbw hc
    have HI := Lib.hid (nis_any (L.getD (q + 1) []) (good_len L (q + 1) HS.out))
    have HL := Lib.hid (nless_any (L.getD q []) (L.getD (q + 1) []) (good_len L q HS.out) (good_len L (q + 1) HS.out))
    have hg0 := good_next L q
    have hlt0 : ltN (L.getD q []) (L.getD (q + 1) []) = lexLess (runesU (L.getD q [])) (runesU (L.getD (q + 1) [])) := rfl
    obtain ⟨x, hx⟩ : ∃ x, L.getD (q + 1) [] = x := ⟨_, rfl⟩
    obtain ⟨y, hy⟩ : ∃ y, L.getD q [] = y := ⟨_, rfl⟩
    rw [hx] at hc' HI HL hg0 hlt0
    rw [hy] at hd HL hg0 hlt0
    rw [← hlt0] at HL
    have hd' := cell_later hbw hd
    have c3 : (0 : Int) < (q : Int) + 1 := by omega
    clear hc hx hy hlt0 hg'
    cases hnx : nameL x with
    | false =>
     rw [hnx] at HI hg0
     have H1 := Lib.hid (HNo.out hg0)
     clear hnx hg0
     go_wp2_with fail
     refine (HI.out _ HTr.out).mono ?_
     rintro e w1 ⟨rfl, hb1⟩
     go_wp2_with fail
     go_ret
     exact ⟨by rw [H1.out]; rfl, below_next hbw hb1⟩
    | true =>
     rw [hnx, Bool.true_and] at hg0
     rw [hnx] at HI
     cases hl : ltN y x with
     | false =>
      rw [hl] at HL hg0
      have H1 := Lib.hid (HNo.out hg0)
      clear hnx hg0 hl
      go_wp2_with fail
      refine (HI.out _ HTr.out).mono ?_
      rintro e w1 ⟨rfl, hb1⟩
      have hb2 := below_next hbw hb1
      have hd2 := cell_later hb2 hd
      clear hd' hc' hd hb1
      go_wp2_with fail
      refine (HL.out _).mono ?_
      rintro e w2 ⟨rfl, hb3⟩
      go_wp2_with fail
      go_ret
      exact ⟨by rw [H1.out]; rfl, below_next hb2 hb3⟩
     | true =>
      rw [hl] at HL hg0
      have H1 := Lib.hid (HStep.out hg0)
      clear hnx hg0 hl
      go_wp2_with fail
      refine (HI.out _ HTr.out).mono ?_
      rintro e w1 ⟨rfl, hb1⟩
      have hb2 := below_next hbw hb1
      have hd2 := cell_later hb2 hd
      clear hd' hc' hd hb1
      go_wp2_with fail
      refine (HL.out _).mono ?_
      rintro e w2 ⟨rfl, hb3⟩
      go_wp2_with fail
      go_roundw
      case rel => exact ⟨q + 1 + 1, by omega, by go_num, H1.out, below_next hb2 hb3⟩
      case measure => simp [RowKit.intOf]; omega
  ·have hke : k = L.length := by omega
   subst hke
   have H1 := Lib.hid (HZ.out HN.out)
   go_wp2_with fail
   go_ret
   exact ⟨by rw [H1.out]; rfl, hbw⟩
end Go.Proofs.YthgbfaoblnkniaaGreatDoor

namespace Go.Proofs.YthgbfaoblnkniaaGreatDoor
open Go.RowKit Go.Lib
set_option maxRecDepth 100000 in
set_option maxHeartbeats 1000000 in
theorem make_new (w : World) (v : Value) (L : List (List UInt8)) (h : Texts w v L) (hL : L.length ≤ 100000) (hs : ∀ x ∈ L, x.length ≤ 1000000) (hT : Lib.Utf8Tabs 1 2 w) :
  Calls Tryz.prog 82 #[v] w fun e w' => ∃ v', e = .returned v' ∧ Texts w' v' (sortedN L) ∧ NewV w.heap.size v' ∧ Below w.heap.size w w' := by
 have H1 := Lib.hid (nsorted_new w v L h hL hs hT)
 clear h hL hs hT
 obtain ⟨R, hR⟩ : ∃ R, sortedN L = R := ⟨_, rfl⟩
 rw [hR] at H1 ⊢
 clear hR
 go_enter Tryz.func82, Tryz.ntmps82
 go_wp2_with fail
 refine H1.out.mono ?_
 rintro e w1 ⟨v1, rfl, ht, hn, hb⟩
 go_wp2_with fail
 go_ret
 exact ⟨_, rfl, ht, hn, hb⟩
set_option maxRecDepth 100000 in
set_option maxHeartbeats 1000000 in
theorem find_any (w : World) (v : Value) (L : List (List UInt8)) (s : List UInt8) (hv : Texts w v L) (hL : L.length ≤ 1000000) (hs : ∀ x ∈ L, x.length ≤ 1000000) (hT : Lib.Utf8Tabs 1 2 w) :
  Calls Tryz.prog 51 #[v, .string (bs s)] w fun e w' => e = .returned (.tuple #[.int .i64 ((findT L s).1 : Nat), .bool (findT L s).2]) ∧ Below w.heap.size w w' := by
 have H1 := Lib.hid (tis_any w v L hv hL hs hT)
 have H2 := Lib.hid (fun w' (h : Texts w' v L) => index_any w' v L s h hL)
 have HV := Lib.hid hv
 obtain ⟨r1, r2⟩ := idxI_range L s
 cases ht : isT L with
 | false =>
  rw [ht] at H1
  have HF := Lib.hid (find_not L s ht)
  generalize findT L s = F at *
  clear hv hL hs hT ht r1 r2
  go_enter Tryz.func51, Tryz.ntmps51
  go_wp2_with fail
  refine H1.out.mono ?_
  rintro e w1 ⟨rfl, hb⟩
  go_wp2_with fail
  go_ret2
  exact ⟨by rw [HF.out]; rfl, hb⟩
 | true =>
  rw [ht] at H1
  have hF := find_idx L s ht
  generalize findT L s = F at *
  generalize idxI L s = I at *
  subst hF
  clear hv hs hT ht
  by_cases h0 : 0 ≤ I
  ·have e1 : decide (0 ≤ I) = true := decide_eq_true h0
   have e2 : (max I 0 : Int) = I := by omega
   have e3 : ((max I 0).toNat : Int) = I := by omega
   simp only [e3, e1]
   clear e1 e3
   go_enter Tryz.func51, Tryz.ntmps51
   go_wp2_with fail
   refine H1.out.mono ?_
   rintro e w1 ⟨rfl, hb⟩
   have HV1 := Lib.hid (HV.out.below hb)
   go_wp2_with fail
   refine (H2.out _ HV1.out).mono ?_
   rintro e w2 ⟨rfl, rfl⟩
   go_wp2_with fail
   go_ret2
   exact ⟨rfl, hb⟩
  ·have e1 : decide (0 ≤ I) = false := decide_eq_false h0
   have e2 : (max I 0 : Int) = 0 := by omega
   have e3 : ((max I 0).toNat : Int) = 0 := by omega
   simp only [e3, e1]
   have E1 := Lib.hid e1
   clear e1 e3
   go_enter Tryz.func51, Tryz.ntmps51
   go_wp2_with fail
   refine H1.out.mono ?_
   rintro e w1 ⟨rfl, hb⟩
   have HV1 := Lib.hid (HV.out.below hb)
   go_wp2_with fail
   refine (H2.out _ HV1.out).mono ?_
   rintro e w2 ⟨rfl, rfl⟩
   go_wp2_with fail
   go_ret2
   refine ⟨?_, hb⟩
   show Ending.returned (.tuple #[.int .i64 0, .bool (decide (0 ≤ I))]) = _
   rw [E1.out]
end Go.Proofs.YthgbfaoblnkniaaGreatDoor

namespace Go.Proofs.YthgbfaoblnkniaaGreatDoor
open Go.RowKit
end Go.Proofs.YthgbfaoblnkniaaGreatDoor

namespace Go.Proofs.YthgbfaoblnkniaaGreatDoor
open Go.RowKit
def HasInts (w : World) (p : Option Addr) (L : List Int) : Prop := ∀ j, j < L.length → ∃ g, p = some ⟨g, 0, none⟩ ∧ w.cell? ⟨g, j, none⟩ = some (.int .i64 (L.getD j 0))
theorem HasInts.below {w w' : World} {p : Option Addr} {L : List Int} (h : HasInts w p L) (hb : Below w.heap.size w w') : HasInts w' p L := fun j hj => by
 obtain ⟨g, hp, hc⟩ := h j hj
 exact ⟨g, hp, cell_later hb hc⟩
def IntsS (w : World) (v : Value) (L : List Int) : Prop := ∃ p cap, v = .slice p L.length cap ∧ HasInts w p L
theorem IntsS.below {w w' : World} {v : Value} {L : List Int} (h : IntsS w v L) (hb : Below w.heap.size w w') : IntsS w' v L := by
 obtain ⟨p, cap, hv, ht⟩ := h
 exact ⟨p, cap, hv, ht.below hb⟩
theorem ints_none (w : World) : IntsS w (.slice none 0 0) [] := ⟨none, 0, rfl, fun j hj => absurd hj (Nat.not_lt_zero j)⟩
def vints (L : List Int) : List Value := L.map fun n => .int .i64 n
theorem vints_snoc (L : List Int) (n : Int) : vints L ++ [.int .i64 n] = vints (L ++ [n]) := by simp [vints]
theorem vints_set (L : List Int) (j : Nat) (n : Int) : (vints L).set j (.int .i64 n) = vints (L.set j n) := by simp [vints, List.map_set]
theorem own_intsI {w : World} {B : Nat} {e : TypeId} {v : Value} {L : List Int} (h : w.ownsRow B e 1 v L.length (vints L)) : IntsS w v L := by
 obtain ⟨-, ⟨h0, hn⟩ | ⟨g, cap, cur, hv, -, hw, -, -, -, ht⟩⟩ := h
 ·have : L = [] := List.eq_nil_of_length_eq_zero hn
  subst this h0
  exact ints_none w
 ·refine ⟨_, cap, hv, fun j hj => ⟨g, rfl, ?_⟩⟩
  have h1 := congrArg (fun x : List Value => x[j]?) ht
  simp only [Nat.mul_one, List.getElem?_take, hj, if_true, Array.getElem?_toList] at h1
  rw [cell_of_row w g j _ _ (0, 0) hw, h1]
  simp [vints, hj]
theorem info_i64 : (Tryz.prog.info? 3).map (fun i => (i.zero, i.size, i.bytes)) = some (some (.int .i64 0), 1, 8) := by kernel_rfl
theorem ints_same_step (L M : List Int) (i : Nat) (R : Bool) (hl : L.length = M.length) (hi : i < L.length) (h : (L.drop i == M.drop i) = R) : (if L.getD i 0 = M.getD i 0 then (L.drop (i + 1) == M.drop (i + 1)) else false) = R := by
 have e1 : L.drop i = L.getD i 0 :: L.drop (i + 1) := by
  rw [List.drop_eq_getElem_cons hi]
  simp [hi]
 have e2 : M.drop i = M.getD i 0 :: M.drop (i + 1) := by
  rw [List.drop_eq_getElem_cons (by omega)]
  simp [hl ▸ hi]
 rw [e1, e2] at h
 rw [← h]
 by_cases hc : L.getD i 0 = M.getD i 0
 ·rw [if_pos hc, hc]
  simp
 ·rw [if_neg hc]
  exact (beq_eq_false_iff_ne.2 fun e => hc (List.cons.inj e).1).symm
end Go.Proofs.YthgbfaoblnkniaaGreatDoor

namespace Go.Proofs.YthgbfaoblnkniaaGreatDoor
open Go.RowKit Go.Lib
def partM (fr M : List (List UInt8)) (k : Nat) : List Int := (fr.take k).map (numT M) ++ List.replicate (fr.length - k) 0
theorem partM_len (fr M : List (List UInt8)) (k : Nat) (hk : k ≤ fr.length) : (partM fr M k).length = fr.length := by
 unfold partM
 simp only [List.length_append, List.length_map, List.length_take, List.length_replicate]
 omega
theorem partM_next (fr M : List (List UInt8)) (k : Nat) (hk : k < fr.length) : (partM fr M k).set k (numT M (fr.getD k [])) = partM fr M (k + 1) := by
 unfold partM
 have hl : ((fr.take k).map (numT M)).length = k := by simp; omega
 obtain ⟨r, hr⟩ : ∃ r, fr.length - k = r + 1 := ⟨fr.length - k - 1, by omega⟩
 have hr2 : fr.length - (k + 1) = r := by omega
 rw [hr, hr2, List.set_append_right _ _ (by omega), hl, Nat.sub_self, List.replicate_succ, List.set_cons_zero, List.take_add_one, List.map_append]
 simp [hk]
theorem partM_all (fr M : List (List UInt8)) : partM fr M fr.length = mapT fr M := by simp [partM, mapT]
theorem made_ints (n : Nat) : (madeCells (Value.cells (.int .i64 0)) (n * 1)).toList = vints (List.replicate n 0) := by
 rw [Nat.mul_one]
 show (madeCells #[.int .i64 0] n).toList = _
 rw [toList_madeCells_one]
 simp [vints]
set_option maxRecDepth 100000 in
set_option maxHeartbeats 2000000 in
theorem map_new (w : World) (v v' : Value) (F L : List (List UInt8)) (hf : Texts w v F) (hv : Texts w v' L) (hF : F.length ≤ 10000) (hL : L.length ≤ 10000) (hs : ∀ x ∈ L, x.length ≤ 1000000) (hT : Lib.Utf8Tabs 1 2 w) :
  Calls Tryz.prog 52 #[v, v'] w fun e w' => ∃ v4, e = .returned v4 ∧ IntsS w' v4 (mapT F L) ∧ NewV w.heap.size v4 ∧ Below w.heap.size w w' := by
 obtain ⟨p, c, rfl, hp⟩ := hf
 have HX := Lib.hid hp
 have HV := Lib.hid hv
 have HT := Lib.hid hT
 have HS := Lib.hid hs
 obtain ⟨i0, hi, hz0, hz1, hz2⟩ := info_parts info_i64
 obtain ⟨w1, hmk, hown, hgrow⟩ := run_make_full (P := Tryz.prog) w w.heap.size 102 3 i0 (.int .i64 0) 1 Tryz.underlying102 hi hz0 hz1 .i64 .i64 F.length (by rw [hz2]; omega) (by unfold maxLen; omega) (Nat.le_refl _)
 rw [made_ints] at hown
 have hb1 : Below w.heap.size w w1 := (Below.refl _ _).grown hgrow (Nat.le_refl _) (fun k hk => by cases hk)
 have e0 : List.replicate F.length (0 : Int) = partM F L 0 := by simp [partM]
 rw [e0] at hown
 have HO := Lib.hid hown
 clear hown hgrow e0 hp hv hT hs
 go_enter Tryz.func52, Tryz.ntmps52
 go_wp2_with fail
 go_loopw [15] (fun i wr => ∃ k : Nat, k ≤ F.length ∧ i = .int .i64 k ∧ wr.ownsRow w.heap.size 3 1 (.slice (some ⟨w.heap.size, 0, none⟩) F.length F.length) F.length (vints (partM F L k)) ∧ Below w.heap.size w wr) (fun i _ => F.length - (RowKit.intOf i).toNat)
 case atStart => exact ⟨0, Nat.zero_le _, rfl, HO.out, hb1⟩
 case round =>
  obtain ⟨k, hk, rfl, hown, hbw⟩ := hrel
  by_cases hlt : k < F.length
  ·obtain ⟨g, rfl, hc⟩ := HX.out k hlt
   have hnx := partM_next F L k hlt
   have hlen := partM_len F L k hk
   obtain ⟨x, hx⟩ : ∃ x, F.getD k [] = x := ⟨_, rfl⟩
   rw [hx] at hc hnx
   have H1 := Lib.hid (fun w' (h : Texts w' v' L) (hT' : Lib.Utf8Tabs 1 2 w') => find_any w' v' L x h (by omega) HS.out hT')
   have hc' := cell_later hbw hc
   have HV1 := Lib.hid (HV.out.below hbw)
   have HT1 := Lib.hid (Utf8Tabs_below HT.out hbw)
   have HN := Lib.hid hnx
   unfold numT at hnx
   have HFx : RowKit.Hid (numT L x = if (findT L x).2 = true then ((findT L x).1 : Int) else -1) := Lib.hid rfl
   clear hx hc hnx
   generalize findT L x = Z at *
   obtain ⟨a, b⟩ := Z
   cases b with
   | false =>
    have HE : RowKit.Hid (numT L x = -1) := Lib.hid (by rw [HFx.out]; rfl)
    go_wp2_with fail
    refine (H1.out _ HV1.out HT1.out).mono ?_
    rintro e w2 ⟨rfl, hb2⟩
    have hown2 := owns_below hown hb2
    have hbw2 := below_next hbw hb2
    have q1 : w2.cell? ⟨w.heap.size, k, none⟩ = some (.int .i64 ((partM F L k).getD k 0)) := by
     rw [hown2.cellAt k (by omega)]
     simp [vints, hlen, hlt]
    have q2 := hown2.frozenAt k
    generalize (partM F L k).getD k 0 = old at q1
    clear hown hb2 hbw HV1 HT1
    go_wp2_with fail
    go_roundw
    case rel =>
     have st := hown2.stored k (.int .i64 (-1))
     rw [vints_set, ← HE.out, HN.out] at st
     exact ⟨k + 1, by omega, by go_num, by rw [← HE.out]; exact st.1, hbw2.grown (by rw [← HE.out]; exact st.2) hbw2.size (fun j hj => by cases hj; exact Nat.le_refl _)⟩
    case measure => simp [RowKit.intOf]; omega
   | true =>
    have HE : RowKit.Hid (numT L x = (a : Int)) := Lib.hid (by rw [HFx.out]; rfl)
    go_wp2_with fail
    refine (H1.out _ HV1.out HT1.out).mono ?_
    rintro e w2 ⟨rfl, hb2⟩
    have hown2 := owns_below hown hb2
    have hbw2 := below_next hbw hb2
    have q1 : w2.cell? ⟨w.heap.size, k, none⟩ = some (.int .i64 ((partM F L k).getD k 0)) := by
     rw [hown2.cellAt k (by omega)]
     simp [vints, hlen, hlt]
    have q2 := hown2.frozenAt k
    generalize (partM F L k).getD k 0 = old at q1
    clear hown hb2 hbw HV1 HT1
    go_wp2_with fail
    go_roundw
    case rel =>
     have st := hown2.stored k (.int .i64 (a : Int))
     rw [vints_set, ← HE.out, HN.out] at st
     exact ⟨k + 1, by omega, by go_num, by rw [← HE.out]; exact st.1, hbw2.grown (by rw [← HE.out]; exact st.2) hbw2.size (fun j hj => by cases hj; exact Nat.le_refl _)⟩
    case measure => simp [RowKit.intOf]; omega
  ·have hke : k = F.length := by omega
   subst hke
   rw [partM_all] at hown
   have HO2 : RowKit.Hid (IntsS wr (.slice (some ⟨w.heap.size, 0, none⟩) F.length F.length) (mapT F L)) := Lib.hid (own_intsI (L := mapT F L) (by simpa [mapT] using hown))
   clear hown
   go_wp2_with fail
   go_ret
   exact ⟨_, rfl, HO2.out, (fun g' e => by simp [Value.ownBlock] at e; omega), hbw⟩
end Go.Proofs.YthgbfaoblnkniaaGreatDoor

namespace Go.Proofs.YthgbfaoblnkniaaGreatDoor
open Go.RowKit Go.Lib
section
attribute [local go_sem] as_nil as_nil_lost as_int64 as_lost as_int64_no as_lost_no
set_option maxHeartbeats 2000000 in
theorem vmay_any (k n : Int) (w : World) :
  Calls Tryz.prog 66 #[.agg #[.int .i64 k, .int .i64 n]] w fun e w' => e = .returned (.bool (mayV k n)) ∧ Below w.heap.size w w' := by
 rcases may_cases k n with ⟨rfl, h⟩ | ⟨rfl, rfl, h⟩ | ⟨rfl, rfl, h⟩ | ⟨rfl, h1, h2, h⟩ | ⟨rfl, h1, h2, h⟩ | ⟨h1, h2, h3, h4, h⟩ <;> rw [h] <;> clear h
 all_goals
  go_enter Tryz.func66, Tryz.ntmps66
  go_wp2
  go_ret
  exact ⟨rfl, by go_grown⟩
set_option maxHeartbeats 2000000 in
theorem rvmay_any (k n : Int) (w : World) :
  Calls Tryz.prog 61 #[.agg #[.int .i64 k, .int .i64 n]] w fun e w' => e = .returned (.bool (mayV k n)) ∧ Below w.heap.size w w' := by
 rcases may_cases k n with ⟨rfl, h⟩ | ⟨rfl, rfl, h⟩ | ⟨rfl, rfl, h⟩ | ⟨rfl, h1, h2, h⟩ | ⟨rfl, h1, h2, h⟩ | ⟨h1, h2, h3, h4, h⟩ <;> rw [h] <;> clear h
 all_goals
  go_enter Tryz.func61, Tryz.ntmps61
  go_wp2
  go_ret
  exact ⟨rfl, by go_grown⟩
end
set_option maxHeartbeats 1000000 in
theorem within_any (n : Int) (p : Option Addr) (m c : Nat) (w : World) :
  Calls Tryz.prog 64 #[.int .i64 n, .slice p m c] w fun e w' => e = .returned (.bool (inside n m)) ∧ w = w' := by
 unfold inside
 by_cases h : 0 ≤ n
 ·have e1 : decide (0 ≤ n) = true := decide_eq_true h
  rw [e1, Bool.true_and]
  go_enter Tryz.func64, Tryz.ntmps64
  go_wp2
  go_ret
  exact ⟨rfl, rfl⟩
 ·have e1 : decide (0 ≤ n) = false := decide_eq_false h
  rw [e1, Bool.false_and]
  go_enter Tryz.func64, Tryz.ntmps64
  go_wp2
  go_ret
  exact ⟨rfl, rfl⟩
set_option maxRecDepth 100000 in
set_option maxHeartbeats 2000000 in
theorem txn_any (v0 v1 v2 sv : Value) (S : List (List UInt8)) (t : TxnM) (w : World) (h0 : Texts w v0 S) (hs : OpsS w sv t.2.2) :
  Calls Tryz.prog 34 #[.agg #[v0, v1, v2], .agg #[.int .i64 t.1, .int .i64 t.2.1, sv]] w fun e w' => e = .returned (.bool (okTxn S.length t)) ∧ Below w.heap.size w w' := by
 obtain ⟨p0, c0, rfl, -⟩ := h0
 obtain ⟨ps, cs, rfl, -⟩ := hs
 obtain ⟨s, f, l⟩ := t
 simp only [okTxn]
 have HW := Lib.hid (within_any s p0 S.length c0)
 generalize l.length = q
 generalize inside s S.length = I at *
 cases I with
 | false =>
  go_enter Tryz.func34, Tryz.ntmps34
  go_wp2_with (first | (go_at_call 64; refine (HW.out _).mono ?_; rintro e w1 ⟨rfl, rfl⟩))
  go_ret
  exact ⟨rfl, by go_grown⟩
 | true =>
  by_cases h1 : 1 ≤ f
  ·have e1 : decide (1 ≤ f) = true := decide_eq_true h1
   by_cases h2 : f ≤ 3
   ·have e2 : decide (f ≤ 3) = true := decide_eq_true h2
    rw [e1, e2]
    go_enter Tryz.func34, Tryz.ntmps34
    go_wp2_with (first | (go_at_call 64; refine (HW.out _).mono ?_; rintro e w1 ⟨rfl, rfl⟩))
    go_ret
    exact ⟨by simp; try omega, by go_grown⟩
   ·have e2 : decide (f ≤ 3) = false := decide_eq_false h2
    rw [e1, e2]
    go_enter Tryz.func34, Tryz.ntmps34
    go_wp2_with (first | (go_at_call 64; refine (HW.out _).mono ?_; rintro e w1 ⟨rfl, rfl⟩))
    go_ret
    exact ⟨rfl, by go_grown⟩
  ·have e1 : decide (1 ≤ f) = false := decide_eq_false h1
   rw [e1]
   go_enter Tryz.func34, Tryz.ntmps34
   go_wp2_with (first | (go_at_call 64; refine (HW.out _).mono ?_; rintro e w1 ⟨rfl, rfl⟩))
   go_ret
   exact ⟨rfl, by go_grown⟩
theorem below_two {w w2 : World} {A B : Obj} (h : Below (w.heap.size + 1 + 1) ((w.alloc A).alloc B) w2) : Below w.heap.size w w2 :=
 below_next (((Below.refl _ _).alloc (Nat.le_refl _) A).alloc (by simp) B) (by simpa using h)
set_option maxRecDepth 100000 in
set_option maxHeartbeats 2000000 in
theorem op_any (v0 v1 v2 : Value) (K : List (List UInt8)) (o : OpM) (w : World) (h1 : Texts w v1 K) :
  Calls Tryz.prog 36 #[.agg #[v0, v1, v2], .agg #[.bool o.1, .int .i64 o.2.1, .int .i64 o.2.2.1, .int .i64 o.2.2.2]] w fun e w' => e = .returned (.bool (okOp K.length o)) ∧ Below w.heap.size w w' := by
 obtain ⟨p1, c1, rfl, -⟩ := h1
 obtain ⟨b, k, kd, n⟩ := o
 simp only [okOp]
 have HW := Lib.hid (within_any k p1 K.length c1)
 have HM := Lib.hid (vmay_any kd n)
 generalize inside k K.length = I at *
 generalize mayV kd n = M at *
 cases I with
 | false =>
  go_enter Tryz.func36, Tryz.ntmps36
  go_wp2_with (first | (go_at_call 64; refine (HW.out _).mono ?_; rintro e w1 ⟨rfl, rfl⟩))
  go_ret
  exact ⟨rfl, by go_grown⟩
 | true =>
  cases M with
  | false =>
   go_enter Tryz.func36, Tryz.ntmps36
   go_wp2_with (first | (go_at_call 64; refine (HW.out _).mono ?_; rintro e w1 ⟨rfl, rfl⟩) | (go_at_call 66; refine (HM.out _).mono ?_; rintro e w2 ⟨rfl, hb2⟩))
   go_ret
   exact ⟨rfl, by (repeat' (first | (with_reducible exact Below.refl _ _) | (with_reducible assumption) | (refine below_next ?_ (by with_reducible assumption)) | (with_reducible refine Below.alloc ?_ ?_ _) | (with_reducible refine Below.drew ?_) | (with_reducible refine below_drewN ?_ _) | omega | (simp; done) | (simp; omega)))⟩
  | true =>
   have ext : ∀ (w2 : World) (hb2 : Below (w.heap.size + 1 + 1) ((w.alloc (.cells #[v0, .slice p1 K.length c1, v2] 25)).alloc (.cells #[.bool b, .int .i64 k, .int .i64 kd, .int .i64 n] 50)) w2), w2.cell? ⟨w.heap.size + 1, 0, none⟩ = some (.bool b) ∧ w2.cell? ⟨w.heap.size + 1, 2, none⟩ = some (.int .i64 kd) := fun w2 hb2 => by
    have e0 := hb2.cell (p := ⟨w.heap.size + 1, 0, none⟩) (by show w.heap.size + 1 < w.heap.size + 1 + 1; omega)
    have e2 := hb2.cell (p := ⟨w.heap.size + 1, 2, none⟩) (by show w.heap.size + 1 < w.heap.size + 1 + 1; omega)
    rw [e0, e2]
    have hr := heap_alloc_new (w.alloc (.cells #[v0, .slice p1 K.length c1, v2] 25)) (.cells #[.bool b, .int .i64 k, .int .i64 kd, .int .i64 n] 50)
    rw [show (w.alloc (.cells #[v0, .slice p1 K.length c1, v2] 25)).heap.size = w.heap.size + 1 by simp] at hr
    exact ⟨by rw [cell_of_row _ _ 0 _ _ (0, 0) hr]; rfl, by rw [cell_of_row _ _ 2 _ _ (0, 0) hr]; rfl⟩
   cases b with
   | false =>
    go_enter Tryz.func36, Tryz.ntmps36
    go_wp2_with (first | (go_at_call 64; refine (HW.out _).mono ?_; rintro e w1 ⟨rfl, rfl⟩) | (go_at_call 66; refine (HM.out _).mono ?_; rintro e w2 ⟨rfl, hb2⟩; try simp at hb2; obtain ⟨x1, x2⟩ := ext w2 hb2))
    go_ret
    exact ⟨rfl, below_two hb2⟩
   | true =>
    go_enter Tryz.func36, Tryz.ntmps36
    go_wp2_with (first | (go_at_call 64; refine (HW.out _).mono ?_; rintro e w1 ⟨rfl, rfl⟩) | (go_at_call 66; refine (HM.out _).mono ?_; rintro e w2 ⟨rfl, hb2⟩; try simp at hb2; obtain ⟨x1, x2⟩ := ext w2 hb2))
    go_ret
    exact ⟨by simp, below_two hb2⟩
end Go.Proofs.YthgbfaoblnkniaaGreatDoor
