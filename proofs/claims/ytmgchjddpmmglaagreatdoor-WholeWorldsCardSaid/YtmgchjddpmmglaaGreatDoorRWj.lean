/-
  A history in memory: operations, transactions, histories as cells. No conditions.
  A number as what is appended. No conditions.
  Slices of numbers: what one holds, and the walk of the comparison of two. No conditions.
  The walks of layer 9 (table), the program: names' numbers in a table; the chapter's example. No conditions but that unicode/utf8's two tables are as their initialisers lay them.
  Layer 10 (pair): what History's loop leaves in memory, the walk apart. No conditions.
  A region that draws its order, where two operations may come up next. No conditions.
-/
import Derived.Test.YtmgchjddpmmglaaGreatDoorRWi
namespace Go.Proofs.YtmgchjddpmmglaaGreatDoor
section
open Go.RowKit
def HasOps (w : World) (p : Option Addr) (L : List OpM) : Prop := ∀ j, j < L.length → ∃ g, p = some ⟨g, 0, none⟩ ∧ w.cell? ⟨g, j * 4, none⟩ = some (.bool (L.getD j noOp).1) ∧ w.cell? ⟨g, j * 4 + 1, none⟩ = some (.int .i64 (L.getD j noOp).2.1) ∧
 w.cell? ⟨g, j * 4 + 2, none⟩ = some (.int .i64 (L.getD j noOp).2.2.1) ∧ w.cell? ⟨g, j * 4 + 3, none⟩ = some (.int .i64 (L.getD j noOp).2.2.2)
theorem HasOps.below {w w' : World} {p : Option Addr} {L : List OpM} (h : HasOps w p L) (hb : Below w.heap.size w w') : HasOps w' p L := fun j hj => by
 obtain ⟨g, hp, h1, h2, h3, h4⟩ := h j hj
 exact ⟨g, hp, cell_later hb h1, cell_later hb h2, cell_later hb h3, cell_later hb h4⟩
def OpsS (w : World) (v : Value) (L : List OpM) : Prop := ∃ p cap, v = .slice p L.length cap ∧ L.length ≤ cap ∧ HasOps w p L
theorem OpsS.below {w w' : World} {v : Value} {L : List OpM} (h : OpsS w v L) (hb : Below w.heap.size w w') : OpsS w' v L := by
 obtain ⟨p, cap, hv, hc, ht⟩ := h
 exact ⟨p, cap, hv, hc, ht.below hb⟩
def HasTxns (w : World) (p : Option Addr) (L : List TxnM) : Prop := ∀ j, j < L.length → ∃ g sv, p = some ⟨g, 0, none⟩ ∧ w.cell? ⟨g, j * 3, none⟩ = some (.int .i64 (L.getD j noTxn).1) ∧ w.cell? ⟨g, j * 3 + 1, none⟩ = some (.int .i64 (L.getD j noTxn).2.1) ∧
 w.cell? ⟨g, j * 3 + 2, none⟩ = some sv ∧ OpsS w sv (L.getD j noTxn).2.2
theorem HasTxns.below {w w' : World} {p : Option Addr} {L : List TxnM} (h : HasTxns w p L) (hb : Below w.heap.size w w') : HasTxns w' p L := fun j hj => by
 obtain ⟨g, sv, hp, h1, h2, h3, h4⟩ := h j hj
 exact ⟨g, sv, hp, cell_later hb h1, cell_later hb h2, cell_later hb h3, h4.below hb⟩
def TxnsS (w : World) (v : Value) (L : List TxnM) : Prop := ∃ p cap, v = .slice p L.length cap ∧ HasTxns w p L
theorem TxnsS.below {w w' : World} {v : Value} {L : List TxnM} (h : TxnsS w v L) (hb : Below w.heap.size w w') : TxnsS w' v L := by
 obtain ⟨p, cap, hv, ht⟩ := h
 exact ⟨p, cap, hv, ht.below hb⟩
def HistV (w : World) (v : Value) (h : HistM) : Prop := ∃ v0 v1 v2, v = .agg #[v0, v1, v2] ∧ Texts w v0 h.1 ∧ Texts w v1 h.2.1 ∧ TxnsS w v2 h.2.2
theorem HistV.below {w w' : World} {v : Value} {h : HistM} (hh : HistV w v h) (hb : Below w.heap.size w w') : HistV w' v h := by
 obtain ⟨v0, v1, v2, hv, h0, h1, h2⟩ := hh
 exact ⟨v0, v1, v2, hv, h0.below hb, h1.below hb, h2.below hb⟩
end
section
open Go.RowKit
theorem news_int (w : World) (x : Int) (e : TypeId) : ∀ (j : Nat) (u : Value), ([.int .i64 x] : List Value)[j]? = some u → (w.alloc (.cells #[.int .i64 x] e)).cell? ((⟨w.heap.size, 0, none⟩ : Addr).add j) = some u := by
 intro j u hj
 match j, hj with
 | 0, hj => simp at hj; subst hj; simp [Addr.add]
theorem ones_int (x : Int) : ∀ u ∈ ([.int .i64 x] : List Value), u.oneCell' = true := by
 intro u hu
 simp at hu
 subst hu
 rfl
end
section
open Go.RowKit
def HasInts (w : World) (p : Option Addr) (L : List Int) : Prop := ∀ j, j < L.length → ∃ g, p = some ⟨g, 0, none⟩ ∧ w.cell? ⟨g, j, none⟩ = some (.int .i64 (L.getD j 0))
theorem HasInts.below {w w' : World} {p : Option Addr} {L : List Int} (h : HasInts w p L) (hb : Below w.heap.size w w') : HasInts w' p L := fun j hj => by
 obtain ⟨g, hp, hc⟩ := h j hj
 exact ⟨g, hp, cell_later hb hc⟩
def IntsS (w : World) (v : Value) (L : List Int) : Prop := ∃ p cap, v = .slice p L.length cap ∧ HasInts w p L
theorem IntsS.below {w w' : World} {v : Value} {L : List Int} (h : IntsS w v L) (hb : Below w.heap.size w w') : IntsS w' v L := by
 obtain ⟨p, cap, hv, ht⟩ := h
 exact ⟨p, cap, hv, ht.below hb⟩
theorem ints_none (w : World) : IntsS w (.slice none 0 0) [] := ⟨none, 0, rfl, fun j hj => absurd hj (Nat.not_lt_zero j)⟩
def vints (L : List Int) : List Value := L.map fun n => .int .i64 n
theorem vints_snoc (L : List Int) (n : Int) : vints L ++ [.int .i64 n] = vints (L ++ [n]) := by simp [vints]
theorem vints_set (L : List Int) (j : Nat) (n : Int) : (vints L).set j (.int .i64 n) = vints (L.set j n) := by simp [vints, List.map_set]
theorem own_intsI {w : World} {B : Nat} {e : TypeId} {v : Value} {L : List Int} (h : w.ownsRow B e 1 v L.length (vints L)) : IntsS w v L := by
 obtain ⟨-, ⟨h0, hn⟩ | ⟨g, cap, cur, hv, -, hw, -, -, -, ht⟩⟩ := h
 ·have : L = [] := List.eq_nil_of_length_eq_zero hn
  subst this h0
  exact ints_none w
 ·refine ⟨_, cap, hv, fun j hj => ⟨g, rfl, ?_⟩⟩
  have h1 := congrArg (fun x : List Value => x[j]?) ht
  simp only [Nat.mul_one, List.getElem?_take, hj, if_true, Array.getElem?_toList] at h1
  rw [cell_of_row w g j _ _ (0, 0) hw, h1]
  simp [vints, hj]
theorem info_i64 : (Tryz.prog.info? 3).map (fun i => (i.zero, i.size, i.bytes)) = some (some (.int .i64 0), 1, 8) := by kernel_rfl
theorem ints_same_step (L M : List Int) (i : Nat) (R : Bool) (hl : L.length = M.length) (hi : i < L.length) (h : (L.drop i == M.drop i) = R) : (if L.getD i 0 = M.getD i 0 then (L.drop (i + 1) == M.drop (i + 1)) else false) = R := by
 have e1 : L.drop i = L.getD i 0 :: L.drop (i + 1) := by
  rw [List.drop_eq_getElem_cons hi]
  simp [hi]
 have e2 : M.drop i = M.getD i 0 :: M.drop (i + 1) := by
  rw [List.drop_eq_getElem_cons (by omega)]
  simp [hl ▸ hi]
 rw [e1, e2] at h
 rw [← h]
 by_cases hc : L.getD i 0 = M.getD i 0
 ·rw [if_pos hc, hc]
  simp
 ·rw [if_neg hc]
  exact (beq_eq_false_iff_ne.2 fun e => hc (List.cons.inj e).1).symm
set_option maxRecDepth 100000 in
set_option maxHeartbeats 1000000 in
theorem sameints_at (w : World) (p q : Option Addr) (c d : Nat) (L M : List Int) (hp : HasInts w p L) (hq : HasInts w q M) (hL : L.length ≤ 4611686018427387904) :
  Calls Tryz.prog 31 #[.slice p L.length c, .slice q M.length d] w fun e w' => e = .returned (.bool (L == M)) ∧ Below w.heap.size w w' := by
 have HP := Lib.hid hp
 have HQ := Lib.hid hq
 clear hp hq
 by_cases hl : L.length = M.length
 ·obtain ⟨R, hR⟩ : ∃ R, (L == M) = R := ⟨_, rfl⟩
  rw [hR]
  have HR := Lib.hid hR
  clear hR
  go_enter Tryz.func31, Tryz.ntmps31
  go_wp2
  go_loopw [5] (fun i wr => ∃ k n : Nat, k ≤ L.length ∧ i = .int .i64 k ∧ wr = w.drewN n ∧ (L.drop k == M.drop k) = R) (fun i _ => L.length - (RowKit.intOf i).toNat)
  case atStart => exact ⟨0, 0, Nat.zero_le _, rfl, rfl, HR.out⟩
  case round =>
   obtain ⟨k, n, hk, rfl, rfl, hr⟩ := hrel
   by_cases hlt : k < L.length
   ·obtain ⟨g, rfl, h1⟩ := HP.out k hlt
    obtain ⟨g2, rfl, h2⟩ := HQ.out k (by omega)
    have HS := Lib.hid (ints_same_step L M k R hl hlt hr)
    clear hr
    generalize L.getD k 0 = x at *
    generalize M.getD k 0 = y at *
    by_cases hxy : x = y
    ·have H1 := HS.out
     rw [if_pos hxy] at H1
     have H2 := Lib.hid H1
     subst hxy
     clear H1 HS
     go_wp2_with fail
     go_region
     go_wp2_with fail
     go_roundw
     case rel => exact ⟨k + 1, n + 1, by omega, by go_num, rfl, H2.out⟩
     case measure => simp [RowKit.intOf]; omega
    ·have H1 := HS.out
     rw [if_neg hxy] at H1
     have H2 := Lib.hid H1
     have e1 : (x != y) = true := by simpa using hxy
     clear H1 HS hxy
     go_wp2_with fail
     go_region
     go_wp2_with fail
     go_ret
     exact ⟨by rw [← H2.out]; rfl, (Go.below_drewN (Below.refl _ _) n).drew⟩
   ·have e1 : L.drop k = [] := List.drop_eq_nil_of_le (by omega)
    have e2 : M.drop k = [] := List.drop_eq_nil_of_le (by omega)
    rw [e1, e2] at hr
    have H2 := Lib.hid hr
    clear hr e1 e2
    go_wp2_with fail
    go_ret
    exact ⟨by rw [← H2.out]; rfl, Go.below_drewN (Below.refl _ _) n⟩
 ·have e : (L == M) = false := beq_eq_false_iff_ne.2 fun h => hl (congrArg List.length h)
  rw [e]
  have e1 : ((L.length : Int) != (M.length : Int)) = true := by simp; omega
  clear e hl
  go_enter Tryz.func31, Tryz.ntmps31
  go_wp2_with fail
  go_ret
  exact ⟨rfl, Below.refl _ _⟩
theorem sameints_any (w : World) (v v' : Value) (L M : List Int) (hv : IntsS w v L) (hv' : IntsS w v' M) (hL : L.length ≤ 4611686018427387904) :
  Calls Tryz.prog 31 #[v, v'] w fun e w' => e = .returned (.bool (L == M)) ∧ Below w.heap.size w w' := by
 obtain ⟨p, c, rfl, hp⟩ := hv
 obtain ⟨q, d, rfl, hq⟩ := hv'
 exact sameints_at w p q c d L M hp hq hL
end
section
open Go.RowKit Go.Lib
def partM (fr M : List (List UInt8)) (k : Nat) : List Int := (fr.take k).map (numT M) ++ List.replicate (fr.length - k) 0
theorem partM_len (fr M : List (List UInt8)) (k : Nat) (hk : k ≤ fr.length) : (partM fr M k).length = fr.length := by
 unfold partM
 simp only [List.length_append, List.length_map, List.length_take, List.length_replicate]
 omega
theorem partM_next (fr M : List (List UInt8)) (k : Nat) (hk : k < fr.length) : (partM fr M k).set k (numT M (fr.getD k [])) = partM fr M (k + 1) := by
 unfold partM
 have hl : ((fr.take k).map (numT M)).length = k := by simp; omega
 obtain ⟨r, hr⟩ : ∃ r, fr.length - k = r + 1 := ⟨fr.length - k - 1, by omega⟩
 have hr2 : fr.length - (k + 1) = r := by omega
 rw [hr, hr2, List.set_append_right _ _ (by omega), hl, Nat.sub_self, List.replicate_succ, List.set_cons_zero, List.take_add_one, List.map_append]
 simp [hk]
theorem partM_all (fr M : List (List UInt8)) : partM fr M fr.length = mapT fr M := by simp [partM, mapT]
theorem made_ints (n : Nat) : (madeCells (Value.cells (.int .i64 0)) (n * 1)).toList = vints (List.replicate n 0) := by
 rw [Nat.mul_one]
 show (madeCells #[.int .i64 0] n).toList = _
 rw [toList_madeCells_one]
 simp [vints]
set_option maxRecDepth 100000 in
set_option maxHeartbeats 2000000 in
theorem map_new (w : World) (v v' : Value) (F L : List (List UInt8)) (hf : Texts w v F) (hv : Texts w v' L) (hF : F.length ≤ 10000) (hL : L.length ≤ 10000) (hs : ∀ x ∈ L, x.length ≤ 1000000) (hT : Lib.Utf8Tabs 1 2 w) :
  Calls Tryz.prog 120 #[v, v'] w fun e w' => ∃ v4, e = .returned v4 ∧ IntsS w' v4 (mapT F L) ∧ NewV w.heap.size v4 ∧ Below w.heap.size w w' := by
 obtain ⟨p, c, rfl, hp⟩ := hf
 have HX := Lib.hid hp
 have HV := Lib.hid hv
 have HT := Lib.hid hT
 have HS := Lib.hid hs
 obtain ⟨i0, hi, hz0, hz1, hz2⟩ := info_parts info_i64
 obtain ⟨w1, hmk, hown, hgrow⟩ := run_make_full (P := Tryz.prog) w w.heap.size 56 3 i0 (.int .i64 0) 1 Tryz.underlying56 hi hz0 hz1 .i64 .i64 F.length (by rw [hz2]; omega) (by unfold maxLen; omega) (Nat.le_refl _)
 rw [made_ints] at hown
 have hb1 : Below w.heap.size w w1 := (Below.refl _ _).grown hgrow (Nat.le_refl _) (fun k hk => by cases hk)
 have e0 : List.replicate F.length (0 : Int) = partM F L 0 := by simp [partM]
 rw [e0] at hown
 have HO := Lib.hid hown
 clear hown hgrow e0 hp hv hT hs
 go_enter Tryz.func120, Tryz.ntmps120
 go_wp2_with fail
 go_loopw [15] (fun i wr => ∃ k : Nat, k ≤ F.length ∧ i = .int .i64 k ∧ wr.ownsRow w.heap.size 3 1 (.slice (some ⟨w.heap.size, 0, none⟩) F.length F.length) F.length (vints (partM F L k)) ∧ Below w.heap.size w wr) (fun i _ => F.length - (RowKit.intOf i).toNat)
 case atStart => exact ⟨0, Nat.zero_le _, rfl, HO.out, hb1⟩
 case round =>
  obtain ⟨k, hk, rfl, hown, hbw⟩ := hrel
  by_cases hlt : k < F.length
  ·obtain ⟨g, rfl, hc⟩ := HX.out k hlt
   have hnx := partM_next F L k hlt
   have hlen := partM_len F L k hk
   obtain ⟨x, hx⟩ : ∃ x, F.getD k [] = x := ⟨_, rfl⟩
   rw [hx] at hc hnx
   have H1 := Lib.hid (fun w' (h : Texts w' v' L) (hT' : Lib.Utf8Tabs 1 2 w') => find_any w' v' L x h (by omega) HS.out hT')
   have hc' := cell_later hbw hc
   have HV1 := Lib.hid (HV.out.below hbw)
   have HT1 := Lib.hid (Utf8Tabs_below HT.out hbw)
   have HN := Lib.hid hnx
   unfold numT at hnx
   have HFx : RowKit.Hid (numT L x = if (findT L x).2 = true then ((findT L x).1 : Int) else -1) := Lib.hid rfl
   clear hx hc hnx
   generalize findT L x = Z at *
   obtain ⟨a, b⟩ := Z
   cases b with
   | false =>
    have HE : RowKit.Hid (numT L x = -1) := Lib.hid (by rw [HFx.out]; rfl)
    go_wp2_with fail
    refine (H1.out _ HV1.out HT1.out).mono ?_
    rintro e w2 ⟨rfl, hb2⟩
    have hown2 := owns_below hown hb2
    have hbw2 := below_next hbw hb2
    have q1 : w2.cell? ⟨w.heap.size, k, none⟩ = some (.int .i64 ((partM F L k).getD k 0)) := by
     rw [hown2.cellAt k (by omega)]
     simp [vints, hlen, hlt]
    have q2 := hown2.frozenAt k
    generalize (partM F L k).getD k 0 = old at q1
    clear hown hb2 hbw HV1 HT1
    go_wp2_with fail
    go_roundw
    case rel =>
     have st := hown2.stored k (.int .i64 (-1))
     rw [vints_set, ← HE.out, HN.out] at st
     exact ⟨k + 1, by omega, by go_num, by rw [← HE.out]; exact st.1, hbw2.grown (by rw [← HE.out]; exact st.2) hbw2.size (fun j hj => by cases hj; exact Nat.le_refl _)⟩
    case measure => simp [RowKit.intOf]; omega
   | true =>
    have HE : RowKit.Hid (numT L x = (a : Int)) := Lib.hid (by rw [HFx.out]; rfl)
    go_wp2_with fail
    refine (H1.out _ HV1.out HT1.out).mono ?_
    rintro e w2 ⟨rfl, hb2⟩
    have hown2 := owns_below hown hb2
    have hbw2 := below_next hbw hb2
    have q1 : w2.cell? ⟨w.heap.size, k, none⟩ = some (.int .i64 ((partM F L k).getD k 0)) := by
     rw [hown2.cellAt k (by omega)]
     simp [vints, hlen, hlt]
    have q2 := hown2.frozenAt k
    generalize (partM F L k).getD k 0 = old at q1
    clear hown hb2 hbw HV1 HT1
    go_wp2_with fail
    go_roundw
    case rel =>
     have st := hown2.stored k (.int .i64 (a : Int))
     rw [vints_set, ← HE.out, HN.out] at st
     exact ⟨k + 1, by omega, by go_num, by rw [← HE.out]; exact st.1, hbw2.grown (by rw [← HE.out]; exact st.2) hbw2.size (fun j hj => by cases hj; exact Nat.le_refl _)⟩
    case measure => simp [RowKit.intOf]; omega
  ·have hke : k = F.length := by omega
   subst hke
   rw [partM_all] at hown
   have HO2 : RowKit.Hid (IntsS wr (.slice (some ⟨w.heap.size, 0, none⟩) F.length F.length) (mapT F L)) := Lib.hid (own_intsI (L := mapT F L) (by simpa [mapT] using hown))
   clear hown
   go_wp2_with fail
   go_ret
   exact ⟨_, rfl, HO2.out, (fun g' e => by simp [Value.ownBlock] at e; omega), hbw⟩
end
section
open Go.RowKit Go.Lib Go.Maps Go.WideMaps
def midO (K : List (List UInt8)) (d : DraftM) (j : Nat) : List OpM := (d.ops.take j).zipWith (opK K) (d.ks.take j) ++ d.ops.drop j
theorem midO_none (K : List (List UInt8)) (d : DraftM) : midO K d 0 = d.ops := by simp [midO]
theorem midO_all (K : List (List UInt8)) (d : DraftM) (h : d.ks.length = d.ops.length) : midO K d d.ops.length = d.ops.zipWith (opK K) d.ks := by
 unfold midO
 rw [List.take_length, ← h, List.take_length, h, List.drop_length, List.append_nil]
theorem midO_next (K : List (List UInt8)) (d : DraftM) (h : d.ks.length = d.ops.length) (j : Nat) (hj : j < d.ops.length) :
  ((midO K d j).flatMap opc).set (j * 4 + 1) (.int .i64 ((findT K (d.ks.getD j [])).1 : Int)) = (midO K d (j + 1)).flatMap opc := by
 have hj2 : j < d.ks.length := by omega
 have e1 : d.ops.drop j = d.ops[j] :: d.ops.drop (j + 1) := List.drop_eq_getElem_cons hj
 have e2 : d.ops.take (j + 1) = d.ops.take j ++ [d.ops[j]] := by rw [List.take_succ_eq_append_getElem hj]
 have e3 : d.ks.take (j + 1) = d.ks.take j ++ [d.ks[j]] := by rw [List.take_succ_eq_append_getElem hj2]
 have e4 : d.ks.getD j [] = d.ks[j] := by simp [hj2]
 have hl : (d.ops.take j).length = (d.ks.take j).length := by simp; omega
 unfold midO
 rw [e1, e2, e3, e4, List.zipWith_append hl]
 have h1 := flat_set opc 4 opc_len ((d.ops.take j).zipWith (opK K) (d.ks.take j)) (d.ops.drop (j + 1)) d.ops[j] (opK K d.ops[j] d.ks[j]) 1 (.int .i64 ((findT K d.ks[j]).1 : Int)) (by decide) rfl
 have hz : ((d.ops.take j).zipWith (opK K) (d.ks.take j)).length = j := by simp; omega
 rw [hz] at h1
 rw [h1]
 simp
theorem key_found {L : List DraftM} (hG : GoodL L) (i : Nat) (hi : i < L.length) (k : List UInt8) (hk : k ∈ (L.getD i noD).ks) : numT (sortedN (keysD L)) k = ((findT (sortedN (keysD L)) k).1 : Int) := by
 have h1 : (findT (sortedN (keysD L)) k).2 = true := by
  unfold findT
  rw [if_pos ⟨sorted_isT _, ((sortedN_spec _).2 k).2 ⟨(keys_mem L k).2 ⟨i, hi, hk⟩, (hG.all _ (getD_memD L i hi)).ks k hk⟩⟩]
 unfold numT
 rw [if_pos h1]
theorem open_iff {L : List DraftM} {E : List EntM} (hG : GoodL L) (_hl : E.length = L.length) (hne : ∀ i j, i < j → j < L.length → (E.getD i noEn).1 ≠ (E.getD j noEn).1) (i : Nat) (hi : i < L.length) :
  ((L.getD i noD).op = true → openF L E (L.getD i noD).nm = some (E.getD i noEn).1) ∧ ((L.getD i noD).op = false → openF L E (L.getD i noD).nm ≠ some (E.getD i noEn).1) := by
 refine ⟨fun ho => ?_, fun ho => ?_⟩
 ·have hlt : atD L (L.getD i noD).nm < L.length := by
   refine Decidable.byContradiction fun h => ?_
   have := atD_none L _ h i hi
   unfold isAt at this
   rw [ho] at this
   simp at this
  obtain ⟨o1, o2⟩ := atD_spec L _ hlt
  have e : atD L (L.getD i noD).nm = i := by
   rcases Nat.lt_trichotomy (atD L (L.getD i noD).nm) i with h | h | h
   ·exact absurd o2 (hG.one _ _ h hi o1 ho)
   ·exact h
   ·exact absurd o2.symm (hG.one _ _ h hlt ho o1)
  unfold openF
  rw [if_pos hlt, e]
 ·unfold openF
  by_cases hlt : atD L (L.getD i noD).nm < L.length
  ·rw [if_pos hlt]
   obtain ⟨o1, o2⟩ := atD_spec L _ hlt
   intro e
   injection e with e
   rcases Nat.lt_trichotomy (atD L (L.getD i noD).nm) i with h | h | h
   ·exact hne _ _ h hi e
   ·rw [h] at o1; rw [o1] at ho; cases ho
   ·exact hne _ _ h hlt e.symm
  ·rw [if_neg hlt]
   intro e
   cases e
def txc (S : List (List UInt8)) (p : DraftM × EntM) : List Value := [.int .i64 ((findT S p.1.nm).1 : Int), .int .i64 p.1.fate, p.2.2.2]
theorem txc_len (S : List (List UInt8)) (p : DraftM × EntM) : (txc S p).length = 3 := rfl
def noP : DraftM × EntM := (noD, noEn)
theorem zip_at (L : List DraftM) (E : List EntM) (hl : E.length = L.length) (i : Nat) (hi : i < L.length) : (L.zip E).getD i noP = (L.getD i noD, E.getD i noEn) := by
 have h2 : i < E.length := by omega
 have h3 : i < (L.zip E).length := by simp; omega
 have e : (L.zip E).getD i noP = (L.zip E)[i] := by simp [List.getD, List.getElem?_eq_getElem h3]
 rw [e, List.getElem_zip]
 simp [hi, h2]
theorem zip_take (L : List DraftM) (E : List EntM) (hl : E.length = L.length) (i : Nat) (hi : i < L.length) : (L.zip E).take (i + 1) = (L.zip E).take i ++ [(L.getD i noD, E.getD i noEn)] := by
 have h3 : i < (L.zip E).length := by simp; omega
 have e : (L.zip E).getD i noP = (L.zip E)[i] := by simp [List.getD, List.getElem?_eq_getElem h3]
 rw [List.take_succ_eq_append_getElem h3, ← zip_at L E hl i hi, e]
def TextsOff (w : World) (v : Value) (T : List (List UInt8)) (gh n0 : Nat) : Prop := ∀ w', (∀ k, n0 ≤ k → k ≠ gh → k < w.heap.size → w'.heap[k]? = w.heap[k]?) → Texts w' v T
theorem textsOff {wi w : World} {v : Value} {T : List (List UInt8)} {gh n0 nb : Nat} (h : Texts wi v T) (hn : NewV nb v) (hgh : gh < nb ∨ wi.heap.size ≤ gh) (h0 : n0 ≤ nb) (hb : ∀ k, k < wi.heap.size → k ≠ gh → w.heap[k]? = wi.heap[k]?) (hs : wi.heap.size ≤ w.heap.size) : TextsOff w v T gh n0 := by
 intro w' hw
 obtain ⟨p, c, rfl, ht⟩ := h
 refine ⟨p, c, rfl, fun j hj => ?_⟩
 obtain ⟨g, rfl, hc⟩ := ht j hj
 refine ⟨g, rfl, ?_⟩
 have hg := hn g rfl
 have hlt : g < wi.heap.size := by
  refine Decidable.byContradiction fun h => ?_
  rw [World.cell?] at hc
  simp [Array.getElem?_eq_none (by omega : wi.heap.size ≤ g)] at hc
 have hne : g ≠ gh := by omega
 have e : w'.heap[g]? = wi.heap[g]? := (hw g (by omega) hne (by omega)).trans (hb g hlt hne)
 rw [World.cell?_of_block (a := ⟨g, j, none⟩) e]
 exact hc
structure HLoop (w1 w5 w : World) (B gh i : Nat) (L : List DraftM) (E : List EntM) (S K : List (List UInt8)) (sv kv vt : Value) : Prop where
 far : ∀ k, k < w5.heap.size → k ≠ gh → (∀ j, j < i → k ≠ (E.getD j noEn).1 ∧ (E.getD j noEn).2.2.ownBlock ≠ some k) → w.heap[k]? = w5.heap[k]?
 sz : w5.heap.size ≤ w.heap.size
 ops : ∀ j, j < i → w.ownsRow B 51 4 (E.getD j noEn).2.2 (L.getD j noD).ops.length ((midO K (L.getD j noD) (L.getD j noD).ops.length).flatMap opc)
 hb : Blk w gh 25 [sv, kv, vt]
 row : w.ownsRow B 47 3 vt i (((L.zip E).take i).flatMap (txc S))
 bel : Below B w1 w
 shut : ∀ j, j < i → (L.getD j noD).op = false
theorem HLoop.below {w1 w5 w w' : World} {B gh i : Nat} {L : List DraftM} {E : List EntM} {S K : List (List UInt8)} {sv kv vt : Value} (h : HLoop w1 w5 w B gh i L E S K sv kv vt) (hb : Below w.heap.size w w') (hB : B ≤ w1.heap.size) : HLoop w1 w5 w' B gh i L E S K sv kv vt :=
 ⟨fun k hk h1 h2 => (hb.block k (Nat.lt_of_lt_of_le hk h.sz)).trans (h.far k hk h1 h2), Nat.le_trans h.sz hb.size, fun j hj => owns_later (h.ops j hj) hb, h.hb.later hb, owns_later h.row hb, h.bel.trans (hb.mono (Nat.le_trans hB h.bel.size)), h.shut⟩
structure HMid (w1 w5 w : World) (B gh i : Nat) (L : List DraftM) (E : List EntM) (S K : List (List UInt8)) (sv kv vt : Value) (s : Int) (j : Nat) : Prop where
 far : ∀ k, k < w5.heap.size → k ≠ gh → (∀ j, j < i + 1 → k ≠ (E.getD j noEn).1 ∧ (E.getD j noEn).2.2.ownBlock ≠ some k) → w.heap[k]? = w5.heap[k]?
 sz : w5.heap.size ≤ w.heap.size
 ops : ∀ j, j < i → w.ownsRow B 51 4 (E.getD j noEn).2.2 (L.getD j noD).ops.length ((midO K (L.getD j noD) (L.getD j noD).ops.length).flatMap opc)
 hb : Blk w gh 25 [sv, kv, vt]
 row : w.ownsRow B 47 3 vt i (((L.zip E).take i).flatMap (txc S))
 bel : Below B w1 w
 shut : ∀ j, j < i → (L.getD j noD).op = false
 dr : Blk w (E.getD i noEn).1 137 [.string (bs (L.getD i noD).nm), (E.getD i noEn).2.1, .int .i64 (L.getD i noD).ln, .int .i64 s, .int .i64 (L.getD i noD).fate, (E.getD i noEn).2.2]
 opi : w.ownsRow B 51 4 (E.getD i noEn).2.2 (L.getD i noD).ops.length ((midO K (L.getD i noD) j).flatMap opc)
theorem HMid.below {w1 w5 w w' : World} {B gh i j : Nat} {s : Int} {L : List DraftM} {E : List EntM} {S K : List (List UInt8)} {sv kv vt : Value} (h : HMid w1 w5 w B gh i L E S K sv kv vt s j) (hb : Below w.heap.size w w') (hB : B ≤ w1.heap.size) : HMid w1 w5 w' B gh i L E S K sv kv vt s j :=
 ⟨fun k hk h1 h2 => (hb.block k (Nat.lt_of_lt_of_le hk h.sz)).trans (h.far k hk h1 h2), Nat.le_trans h.sz hb.size, fun j hj => owns_later (h.ops j hj) hb, h.hb.later hb, owns_later h.row hb, h.bel.trans (hb.mono (Nat.le_trans hB h.bel.size)), h.shut, h.dr.later hb, owns_later h.opi hb⟩
structure Apart (w5 : World) (B gm gh N bo bz bk : Nat) (L : List DraftM) (lv : Value) (E : List EntM) : Prop where
 mi : MkI w5 B gm L N lv bo bz bk E
 gh : Ty w5 gh 25
theorem Apart.e1 {w5 : World} {B gm gh N bo bz bk : Nat} {L : List DraftM} {lv : Value} {E : List EntM} (h : Apart w5 B gm gh N bo bz bk L lv E) (i j : Nat) (hij : i ≠ j) (hi : i < L.length) (hj : j < L.length) : (E.getD i noEn).1 ≠ (E.getD j noEn).1 := by
 rcases Nat.lt_or_gt_of_ne hij with h1 | h1
 ·exact h.mi.ne i j h1 hj
 ·exact (h.mi.ne j i h1 hi).symm
theorem Apart.e2 {w5 : World} {B gm gh N bo bz bk : Nat} {L : List DraftM} {lv : Value} {E : List EntM} (h : Apart w5 B gm gh N bo bz bk L lv E) (i j : Nat) (hij : i ≠ j) (hi : i < L.length) (hj : j < L.length) (g : Nat) (h1 : (E.getD i noEn).2.2.ownBlock = some g) : (E.getD j noEn).2.2.ownBlock ≠ some g := by
 rcases Nat.lt_or_gt_of_ne hij with h2 | h2
 ·exact h.mi.neo i j h2 hj g h1
 ·exact fun h3 => h.mi.neo j i h2 hi g h3 h1
theorem Apart.ty {w5 : World} {B gm gh N bo bz bk : Nat} {L : List DraftM} {lv : Value} {E : List EntM} (h : Apart w5 B gm gh N bo bz bk L lv E) {k : Nat} {t : TypeId} (hk : Ty w5 k t) (h1 : t ≠ 137) (h2 : t ≠ 51) (n : Nat) (hn : n ≤ L.length) : ∀ j, j < n → k ≠ (E.getD j noEn).1 ∧ (E.getD j noEn).2.2.ownBlock ≠ some k := fun j hj => by
 have d := h.mi.dr j (by omega)
 exact ⟨hk.ne d.blk.ty h1, fun e => (hk.ne (owns_ty d.ops e) h2) rfl⟩
theorem HLoop.mid {w1 w5 w : World} {B gm gh i N bo bz bk : Nat} {L : List DraftM} {lv : Value} {E : List EntM} {S K : List (List UInt8)} {sv kv vt : Value} (ha : Apart w5 B gm gh N bo bz bk L lv E) (h : HLoop w1 w5 w B gh i L E S K sv kv vt) (hi : i < L.length) : HMid w1 w5 w B gh i L E S K sv kv vt 0 0 := by
 have d := ha.mi.dr i hi
 refine ⟨fun k hk h1 h2 => h.far k hk h1 (fun j hj => h2 j (by omega)), h.sz, h.ops, h.hb, h.row, h.bel, h.shut, d.blk.at (h.far _ d.blk.lt (d.blk.ty.ne ha.gh (by decide)) (fun j hj => ⟨ha.e1 i j (by omega) hi (by omega), fun e => (d.blk.ty.ne (owns_ty (ha.mi.dr j (by omega)).ops e) (by decide)) rfl⟩)), ?_⟩
 rw [midO_none]
 exact owns_at d.ops (fun k hk => h.far k (own_lt d.ops hk) ((owns_ty d.ops hk).ne ha.gh (by decide)) (fun j hj => ⟨(owns_ty d.ops hk).ne (ha.mi.dr j (by omega)).blk.ty (by decide), ha.e2 i j (by omega) hi (by omega) k hk⟩))
theorem HMid.sess {w1 w5 w : World} {B gm gh i j N bo bz bk : Nat} {s : Int} {L : List DraftM} {lv : Value} {E : List EntM} {S K : List (List UInt8)} {sv kv vt : Value} (ha : Apart w5 B gm gh N bo bz bk L lv E) (h : HMid w1 w5 w B gh i L E S K sv kv vt s j) (hi : i < L.length) (u : Int) :
  HMid w1 w5 (w.setCell ⟨(E.getD i noEn).1, 3, none⟩ (.int .i64 u)) B gh i L E S K sv kv vt u j := by
 have d := ha.mi.dr i hi
 have old : ∀ k, k ≠ (E.getD i noEn).1 → (w.setCell ⟨(E.getD i noEn).1, 3, none⟩ (.int .i64 u)).heap[k]? = w.heap[k]? := fun k h1 => Below.heap_setCell _ _ _ _ h1
 refine ⟨fun k hk h1 h2 => (old k (h2 i (by omega)).1).trans (h.far k hk h1 h2), by rw [set_size]; exact h.sz, fun j hj => owns_store (h.ops j hj) h.dr (by decide) 3 _, h.hb.at (old gh (h.hb.ty.ne h.dr.ty (by decide))), owns_store h.row h.dr (by decide) 3 _, h.bel.setCell d.base _, h.shut, h.dr.set 3 _, owns_store h.opi h.dr (by decide) 3 _⟩
theorem HMid.op {w1 w5 w : World} {B gm gh i j N bo bz bk go cp : Nat} {s : Int} {L : List DraftM} {lv : Value} {E : List EntM} {S K : List (List UInt8)} {sv kv vt : Value} (ha : Apart w5 B gm gh N bo bz bk L lv E) (h : HMid w1 w5 w B gh i L E S K sv kv vt s j) (hi : i < L.length)
  (hv : (E.getD i noEn).2.2 = .slice (some ⟨go, 0, none⟩) (L.getD i noD).ops.length cp) (hl : (L.getD i noD).ks.length = (L.getD i noD).ops.length) (hj : j < (L.getD i noD).ops.length) :
  HMid w1 w5 (w.setCell ⟨go, j * 4 + 1, none⟩ (.int .i64 ((findT K ((L.getD i noD).ks.getD j [])).1 : Int))) B gh i L E S K sv kv vt s (j + 1) := by
 have d := ha.mi.dr i hi
 have hown : (E.getD i noEn).2.2.ownBlock = some go := by rw [hv]; rfl
 have hty := owns_ty h.opi hown
 have old : ∀ k, k ≠ go → (w.setCell ⟨go, j * 4 + 1, none⟩ (.int .i64 ((findT K ((L.getD i noD).ks.getD j [])).1 : Int))).heap[k]? = w.heap[k]? := fun k h1 => Below.heap_setCell _ _ _ _ h1
 have hst := h.opi
 rw [hv] at hst
 have hst2 := (hst.stored (j * 4 + 1) (.int .i64 ((findT K ((L.getD i noD).ks.getD j [])).1 : Int))).1
 rw [midO_next K _ hl j hj] at hst2
 refine ⟨fun k hk h1 h2 => (old k (fun e => (h2 i (by omega)).2 (by rw [e]; exact hown))).trans (h.far k hk h1 h2), by rw [set_size]; exact h.sz, fun q hq => owns_at (h.ops q hq) (fun k hk => old k (fun e => ?_)), h.hb.at (old gh (h.hb.ty.ne hty (by decide))), owns_at h.row (fun k hk => old k ((owns_ty h.row hk).ne hty (by decide))), h.bel.setCell (d.ops.lt go hown).1 _, h.shut, h.dr.at (old _ (h.dr.ty.ne hty (by decide))), by rw [hv]; exact hst2⟩
 subst e
 exact ha.e2 i q (by omega) hi (by omega) k hown hk
theorem HMid.done {w1 w5 w w4 : World} {B gm gh i N bo bz bk : Nat} {L : List DraftM} {lv : Value} {E : List EntM} {S K : List (List UInt8)} {sv kv vt v4 : Value} {ob : Obj} (_ha : Apart w5 B gm gh N bo bz bk L lv E) (hlen : E.length = L.length) (h : HMid w1 w5 w B gh i L E S K sv kv vt ((findT S (L.getD i noD).nm).1 : Int) (L.getD i noD).ops.length) (hi : i < L.length)
  (ho : (L.getD i noD).op = false) (hg5 : B ≤ gh) (hB : B ≤ w1.heap.size) (hvt : ∀ k, vt.ownBlock = some k → w5.heap.size ≤ k)
  (hown : w4.ownsRow B 47 3 v4 (i + 1) (((L.zip E).take i).flatMap (txc S) ++ txc S (L.getD i noD, E.getD i noEn))) (hg : (w.alloc ob).grownBy w4 vt.ownBlock) (hat : v4.ownBlock = vt.ownBlock ∨ v4.ownBlock = some (w.alloc ob).heap.size) :
  Blk w4 gh 25 [sv, kv, vt] ∧ HLoop w1 w5 (w4.setCell ⟨gh, 2, none⟩ v4) B gh (i + 1) L E S K sv kv v4 ∧ ∀ k, v4.ownBlock = some k → w5.heap.size ≤ k := by
 have old : ∀ k, k < w.heap.size → vt.ownBlock ≠ some k → w4.heap[k]? = w.heap[k]? := fun k hk hne => by
  rw [hg.block k (by simp; omega) (fun e => hne e.symm), heap_kept _ _ hk]
 have hb4 := h.hb.at (old gh h.hb.lt (fun e => (h.hb.ty.ne (owns_ty h.row e) (by decide)) rfl))
 have old5 : ∀ k, k < w.heap.size → vt.ownBlock ≠ some k → k ≠ gh → (w4.setCell ⟨gh, 2, none⟩ v4).heap[k]? = w.heap[k]? := fun k hk hne h1 => by
  rw [Below.heap_setCell _ _ _ _ h1]
  exact old k hk hne
 have hsz : w.heap.size ≤ w4.heap.size := Nat.le_trans (by simp) hg.size
 have keep : ∀ {n : Nat} {v : Value} {xs : List Value}, w.ownsRow B 51 4 v n xs → (w4.setCell ⟨gh, 2, none⟩ v4).ownsRow B 51 4 v n xs := fun hv => owns_at hv (fun k hk => old5 k (own_lt hv hk) (fun e => ((owns_ty hv hk).ne (owns_ty h.row e) (by decide)) rfl) ((owns_ty hv hk).ne h.hb.ty (by decide)))
 refine ⟨hb4, ⟨fun k hk h1 h2 => (old5 k (Nat.lt_of_lt_of_le hk h.sz) (fun e => by have := hvt k e; omega) h1).trans (h.far k hk h1 h2), by rw [set_size]; exact Nat.le_trans h.sz hsz, fun j hj => ?_, hb4.set 2 v4, ?_, ?_, fun j hj => ?_⟩, fun k hk => ?_⟩
 ·rcases Nat.lt_or_ge j i with h1 | h1
  ·exact keep (h.ops j h1)
  ·have e : j = i := by omega
   subst e
   exact keep h.opi
 ·rw [zip_take L E hlen i hi, ← flat_snoc]
  exact owns_store hown hb4 (by decide) 2 v4
 ·have hBw := Nat.le_trans hB h.bel.size
  exact ((h.bel.alloc hBw ob).grown hg (by simp; omega) (fun k hk => (h.row.lt k hk).1)).setCell hg5 _
 ·rcases Nat.lt_or_ge j i with h1 | h1
  ·exact h.shut j h1
  ·have e : j = i := by omega
   subst e
   exact ho
 ·rcases hat with hat | hat
  ·rw [hat] at hk; exact hvt k hk
  ·rw [hat] at hk; injection hk with hk; simp at hk; have := h.sz; omega
theorem HLoop.start {w1 w5 : World} {B gh : Nat} {L : List DraftM} {E : List EntM} {S K : List (List UInt8)} {sv kv : Value} (hb : Blk w5 gh 25 [sv, kv, .slice none 0 0]) (hw : Below B w1 w5) : HLoop w1 w5 w5 B gh 0 L E S K sv kv (.slice none 0 0) :=
 ⟨fun _ _ _ _ => rfl, Nat.le_refl _, fun j hj => absurd hj (Nat.not_lt_zero j), hb, by rw [List.take_zero]; exact World.ownsRow_nil _ _ _ _, hw, fun j hj => absurd hj (Nat.not_lt_zero j)⟩
theorem HLoop.ptrs {w1 w5 w : World} {B gm gh i N bo bz bk : Nat} {L : List DraftM} {lv : Value} {E : List EntM} {S K : List (List UInt8)} {sv kv vt : Value} (ha : Apart w5 B gm gh N bo bz bk L lv E) (h : HLoop w1 w5 w B gh i L E S K sv kv vt) (hi : i ≤ L.length) : SlS ptc 1 noEn w lv E :=
 own_sls (f := ptc) (s := 1) noEn (fun _ => rfl) (owns_at (w' := w) ha.mi.row (fun q hq => h.far q (own_lt ha.mi.row hq) ((owns_ty ha.mi.row hq).ne ha.gh (by decide)) (ha.ty (owns_ty ha.mi.row hq) (by decide) (by decide) i hi)))
theorem HLoop.bx {w1 w5 w : World} {B gm gh i N bo bz bk : Nat} {L : List DraftM} {lv : Value} {E : List EntM} {S K : List (List UInt8)} {sv kv vt : Value} (ha : Apart w5 B gm gh N bo bz bk L lv E) (h : HLoop w1 w5 w B gh i L E S K sv kv vt) (hi : i ≤ L.length) : Blk w gm 134 [lv, .map (some bo), .map (some bz), .map (some bk)] :=
 ha.mi.bx.at (h.far gm ha.mi.bx.lt (ha.mi.bx.ty.ne ha.gh (by decide)) (ha.ty ha.mi.bx.ty (by decide) (by decide) i hi))
theorem HLoop.opn {w1 w5 w : World} {B gm gh i N bo bz bk : Nat} {L : List DraftM} {lv : Value} {E : List EntM} {S K : List (List UInt8)} {sv kv vt : Value} (ha : Apart w5 B gm gh N bo bz bk L lv E) (h : HLoop w1 w5 w B gh i L E S K sv kv vt) (hi : i ≤ L.length) : OpnM w bo (openF L E) N :=
 ha.mi.opn.at (h.far bo ha.mi.opn.lt (ha.mi.opn.ty ha.gh) (fun j hj => ⟨ha.mi.opn.ty (ha.mi.dr j (by omega)).blk.ty, fun e => ha.mi.opn.ty (owns_ty (ha.mi.dr j (by omega)).ops e) rfl⟩))
theorem HLoop.other {w1 w5 w : World} {B gm gh i N bo bz bk g' : Nat} {L : List DraftM} {lv : Value} {E : List EntM} {S K : List (List UInt8)} {sv kv vt : Value} (ha : Apart w5 B gm gh N bo bz bk L lv E) (h : HLoop w1 w5 w B gh i L E S K sv kv vt) (_hi : i < L.length) (ho : (L.getD i noD).op = false) (hF : openF L E (L.getD i noD).nm = some g') : ∃ cs, Blk w g' 137 cs := by
 unfold openF at hF
 by_cases hlt : atD L (L.getD i noD).nm < L.length
 ·rw [if_pos hlt] at hF
  injection hF with hF
  obtain ⟨o1, o2⟩ := atD_spec L _ hlt
  have hgt : i < atD L (L.getD i noD).nm := by
   rcases Nat.lt_trichotomy (atD L (L.getD i noD).nm) i with h1 | h1 | h1
   ·rw [h.shut _ h1] at o1; cases o1
   ·rw [h1, ho] at o1; cases o1
   ·exact h1
  have d := ha.mi.dr _ hlt
  rw [← hF]
  exact ⟨_, d.blk.at (h.far _ d.blk.lt (d.blk.ty.ne ha.gh (by decide)) (fun j hj => ⟨ha.e1 _ j (by omega) hlt (by omega), fun e => (d.blk.ty.ne (owns_ty (ha.mi.dr j (by omega)).ops e) (by decide)) rfl⟩))⟩
 ·rw [if_neg hlt] at hF; cases hF
theorem nmc_strs (L : List (List UInt8)) : L.flatMap nmc = strs L := by
 induction L with
 | nil => rfl
 | cons a L ih => rw [List.flatMap_cons, ih]; rfl
theorem HMid.keys {w1 w5 w : World} {B gm gh i j N bo bz bk : Nat} {s : Int} {L : List DraftM} {lv : Value} {E : List EntM} {S K : List (List UInt8)} {sv kv vt : Value} (ha : Apart w5 B gm gh N bo bz bk L lv E) (h : HMid w1 w5 w B gh i L E S K sv kv vt s j) (hi : i < L.length) : Texts w (E.getD i noEn).2.1 (L.getD i noD).ks := by
 have d := ha.mi.dr i hi
 have := owns_at (w' := w) d.ks (fun q hq => h.far q (own_lt d.ks hq) ((owns_ty d.ks hq).ne ha.gh (by decide)) (ha.ty (owns_ty d.ks hq) (by decide) (by decide) (i + 1) hi))
 rw [nmc_strs] at this
 exact own_texts this
def LowE (L : List DraftM) (E : List EntM) (n0 : Nat) : Prop := ∀ j, j < L.length → (E.getD j noEn).1 < n0 ∧ ∀ g, (E.getD j noEn).2.2.ownBlock = some g → g < n0
theorem low_of {w : World} {B gm N bo bz bk : Nat} {L : List DraftM} {lv : Value} {E : List EntM} (h : MkI w B gm L N lv bo bz bk E) : LowE L E w.heap.size := fun j hj => ⟨(h.dr j hj).blk.lt, fun _g hg => own_lt (h.dr j hj).ops hg⟩
theorem texts_at {w w5 : World} {v : Value} {T : List (List UInt8)} {gh n0 i : Nat} {L : List DraftM} {E : List EntM} (h : TextsOff w5 v T gh n0) (hl : LowE L E n0) (hi : i ≤ L.length) (hf : ∀ k, k < w5.heap.size → k ≠ gh → (∀ j, j < i → k ≠ (E.getD j noEn).1 ∧ (E.getD j noEn).2.2.ownBlock ≠ some k) → w.heap[k]? = w5.heap[k]?) : Texts w v T :=
 h w (fun k h0 h1 h2 => hf k h2 h1 (fun j hj => ⟨fun e => by have := (hl j (by omega)).1; omega, fun e => by have := (hl j (by omega)).2 k e; omega⟩))
theorem txns_of {w : World} {B : Nat} {L : List DraftM} {E : List EntM} {S K : List (List UInt8)} {vt : Value} (hr : w.ownsRow B 47 3 vt L.length (((L.zip E).take L.length).flatMap (txc S)))
  (hops : ∀ j, j < L.length → w.ownsRow B 51 4 (E.getD j noEn).2.2 (L.getD j noD).ops.length ((midO K (L.getD j noD) (L.getD j noD).ops.length).flatMap opc)) (hl : E.length = L.length) (hG : GoodL L) : TxnsS w vt (L.map (txnD S K)) := by
 have hz : (L.zip E).length = L.length := by simp; omega
 rw [List.take_of_length_le (by omega)] at hr
 rw [← hz] at hr
 obtain ⟨p, cap, hv, hc⟩ := own_sls noP (txc_len S) hr
 refine ⟨p, cap, by rw [hv]; simp; omega, fun j hj => ?_⟩
 rw [List.length_map] at hj
 obtain ⟨g, hp, h1⟩ := hc j (by omega)
 rw [zip_at L E hl j hj] at h1
 have hd : (L.map (txnD S K)).getD j noTxn = txnD S K (L.getD j noD) := by simp [hj]
 rw [hd]
 refine ⟨g, (E.getD j noEn).2.2, hp, h1 0 _ rfl, h1 1 _ rfl, h1 2 _ rfl, ?_⟩
 have hg := hG.all _ (getD_memD L j hj)
 have ho := hops j hj
 rw [midO_all K _ hg.len] at ho
 have hlo : ((L.getD j noD).ops.zipWith (opK K) (L.getD j noD).ks).length = (L.getD j noD).ops.length := by rw [List.length_zipWith, hg.len, Nat.min_self]
 rw [← hlo] at ho
 obtain ⟨p2, cap2, hv2, hc2⟩ := own_sls noOp opc_len ho
 refine ⟨p2, cap2, hv2, owns_cap ho hv2, fun q hq => ?_⟩
 obtain ⟨g2, hp2, h2⟩ := hc2 q hq
 exact ⟨g2, hp2, h2 0 _ rfl, h2 1 _ rfl, h2 2 _ rfl, h2 3 _ rfl⟩
end
section
open Go.RowKit
section
variable {P : Program} {ops : Array Oper} {Q : Exit → Act → World → Prop} {md : Region.Mode} {S : World → Prop} {late : List Nat}
theorem wpAnyM_two (i j : Nat) {di dj : Option Tmp} {opi opj : Op} {tyi tyj : TypeId} {posi posj : String} {afti aftj : Array Edge} {gdi gdj : Option (Nat × Bool)} {fuel : Nat} {listed : Array Bool} {a : Act} {w : World} (hi : ops[i]? = some ⟨di, opi, tyi, posi, afti, gdi⟩) (hj : ops[j]? = some ⟨dj, opj, tyj, posj, aftj, gdj⟩) (hr : Region.ready md ops listed = [i, j])
  (h1 : ∀ K : Act → World → Prop, RowKit.Hid (∀ a' w', (late.contains i = false → S w → S w') → wpAnyM P md ops Q S late fuel (listed.setIfInBounds i true) a' w' → K a' w') → if Region.wanted ⟨di, opi, tyi, posi, afti, gdi⟩ (yielded ops a.tmps) = true then Oper.wp P ⟨di, opi, tyi, posi, afti, gdi⟩ a w K Q else K (a.put di undef) w)
  (h2 : ∀ K : Act → World → Prop, RowKit.Hid (∀ a' w', (late.contains j = false → S w → S w') → wpAnyM P md ops Q S late fuel (listed.setIfInBounds j true) a' w' → K a' w') → if Region.wanted ⟨dj, opj, tyj, posj, aftj, gdj⟩ (yielded ops a.tmps) = true then Oper.wp P ⟨dj, opj, tyj, posj, aftj, gdj⟩ a w K Q else K (a.put dj undef) w) : wpAnyM P md ops Q S late (fuel + 1) listed a w := by
 refine ⟨fun h0 => (by rw [hr] at h0; cases h0), fun q hq => ?_⟩
 rw [hr] at hq
 have hq' : q = i ∨ q = j := by simpa using hq
 rcases hq' with rfl | rfl
 ·exact wpOp_step hi (fun K hK => h1 K (Lib.hid (fun a' w' g1 g2 => hK a' w' ⟨g1, g2⟩)))
 ·exact wpOp_step hj (fun K hK => h2 K (Lib.hid (fun a' w' g1 g2 => hK a' w' ⟨g1, g2⟩)))
end
end
end Go.Proofs.YtmgchjddpmmglaaGreatDoor
