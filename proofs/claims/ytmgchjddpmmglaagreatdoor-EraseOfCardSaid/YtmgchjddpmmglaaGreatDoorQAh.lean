/-
  The walk of layer 2 (name): texts' names in order, in the program. No conditions but that unicode/utf8's two tables are as their initialisers lay them.
  Rows of texts of a call's own; append to a row of one's own as one step of a region that draws. No conditions.
  The walks of layer 9 (table), the program: a table or not, where a text stands, a copy, a name put in. No conditions but that unicode/utf8's two tables are as their initialisers lay them.
  The walks of layer 9 (table), the program: a table made, a name found, a name put in. No conditions but that unicode/utf8's two tables are as their initialisers lay them.
  A number as what is appended. No conditions.
  Slices of numbers: what one holds, and the walk of the comparison of two. No conditions.
  The walks of layer 9 (table), the program: names' numbers in a table; the chapter's example. No conditions but that unicode/utf8's two tables are as their initialisers lay them.
  The walks of layer 11 (hist): a history in memory; whether an operation, a transaction, the tables may be. No conditions but that unicode/utf8's two tables are as their initialisers lay them.
  The walks of layer 11 (hist), the program: whether the tables may be, whether all transactions may be. No conditions but that unicode/utf8's two tables are as their initialisers lay them.
-/
import Derived.Test.YtmgchjddpmmglaaGreatDoorQAg
import Derived.Lib.RowBridge
import Derived.OwnWalk
import Derived.SliceStrings
import Derived.Lib.SliceRun
namespace Go.Proofs.YtmgchjddpmmglaaGreatDoor
section
open Go.RowKit Go.Lib Go.Sort
theorem news_txt (w : World) (x : ByteArray) (e : TypeId) : ∀ (j : Nat) (u : Value), ([.string x] : List Value)[j]? = some u → (w.alloc (.cells #[.string x] e)).cell? ((⟨w.heap.size, 0, none⟩ : Addr).add j) = some u := by
 intro j u hj
 match j, hj with
 | 0, hj => simp at hj; subst hj; simp [Addr.add]
theorem ones_txt (x : ByteArray) : ∀ u ∈ ([.string x] : List Value), u.oneCell' = true := by
 intro u hu
 simp at hu
 subst hu
 rfl
theorem holds_own {w : World} {g cap : Nat} {cur : Array Value} {M : List (List UInt8)} {d : List NameT} (hd : d.map (·.1) = M) (hw : w.heap[g]? = some (.cells cur 9 (0, 0))) (ht : cur.toList.take (M.length * 1) = strs M) (hc : M.length ≤ cap) : Holds encN w g 0 d.toArray := by
 intro j hj
 have hj' : j < d.length := by simpa using hj
 have hjM : j < M.length := by rw [← hd]; simpa using hj'
 refine ⟨?_, ?_⟩
 ·have h1 := congrArg (fun x : List Value => x[j]?) ht
  simp only [Nat.mul_one, List.getElem?_take, hjM, if_true, Array.getElem?_toList] at h1
  rw [Nat.zero_add, cell_of_row w g j _ _ (0, 0) hw, h1]
  subst hd
  simp [strs, hj', encN]
 ·rw [Nat.zero_add]
  exact frozen_of_row w g j cur _ hw
theorem owns_below {w w1 : World} {B size n : Nat} {e : TypeId} {v : Value} {xs : List Value} (h : w.ownsRow B e size v n xs) (hb : Below w.heap.size w w1) : w1.ownsRow B e size v n xs := by
 obtain ⟨h1, h2 | ⟨g, cap, cur, hv, hB, hw, hrest⟩⟩ := h
 ·exact ⟨h1, .inl h2⟩
 ·exact ⟨h1, .inr ⟨g, cap, cur, hv, hB, by rw [hb.block g (Array.getElem?_eq_some_iff.1 hw).1]; exact hw, hrest⟩⟩
theorem holds_str {w : World} {g : Nat} (d : List NameT) (h : Holds encN w g 0 d.toArray) : Holds Go.Proofs.encStr w g 0 (d.map (·.1)).toArray := by
 intro j hj
 have hj' : j < d.length := by simpa using hj
 obtain ⟨h1, h2⟩ := h j (by simpa using hj')
 refine ⟨?_, h2⟩
 rw [h1]
 simp [hj', encN, bs]
theorem texts_put {w : World} {g q : Nat} {S C : List (List UInt8)} (hC : C.length ≤ S.length) (hH : Holds Go.Proofs.encStr w g 0 S.toArray) :
  HasTexts (putRow Go.Proofs.encStr (Sort.ahead w q) g 0 (C ++ List.replicate (S.length - C.length) []).toArray) (some ⟨g, 0, none⟩) C := by
 have h2 := holds_putRow Go.Proofs.encStr (Sort.ahead w q) g 0 S.toArray (C ++ List.replicate (S.length - C.length) []).toArray hH (by simp; omega)
 intro j hj
 have hjs : j < (C ++ List.replicate (S.length - C.length) ([] : List UInt8)).toArray.size := by simp; omega
 have := (h2 j hjs).1
 refine ⟨g, rfl, ?_⟩
 rw [Nat.zero_add] at this
 rw [this]
 have e : (C ++ List.replicate (S.length - C.length) ([] : List UInt8)).toArray[j]! = C.getD j [] := by
  rw [getElem!_pos _ j hjs]
  simp [hj]
 rw [e]
 rfl
def NewV (B : Nat) (v : Value) : Prop := ∀ g, v.ownBlock = some g → B ≤ g
set_option maxRecDepth 100000 in
set_option maxHeartbeats 2000000 in
theorem nsorted_new (w : World) (v : Value) (L : List (List UInt8)) (h : Texts w v L) (hL : L.length ≤ 100000) (hs : ∀ x ∈ L, x.length ≤ 1000000) (hT : Lib.Utf8Tabs 1 2 w) :
  Calls Tryz.prog 203 #[v] w fun e w' => ∃ v', e = .returned v' ∧ Texts w' v' (sortedN L) ∧ NewV w.heap.size v' ∧ Below w.heap.size w w' := by
 obtain ⟨p, cap, rfl, ht⟩ := h
 have HX := Lib.hid ht
 have HS := Lib.hid hs
 have HT := Lib.hid hT
 clear ht hs hT
 obtain ⟨R, hR⟩ : ∃ R, sortedN L = R := ⟨_, rfl⟩
 rw [hR]
 have HR := Lib.hid hR
 clear hR
 obtain ⟨i0, hi, hz0, hz1, hz2⟩ := info_parts info_str
 go_enter Tryz.func203, Tryz.ntmps203
 go_wp2_with fail
 go_loopw [3, 8] (fun out i wr => ∃ k : Nat, k ≤ L.length ∧ i = .int .i64 k ∧ wr.ownsRow w.heap.size 9 1 out ((L.take k).filter nameL).length (strs ((L.take k).filter nameL)) ∧ Below w.heap.size w wr) (fun _ i _ => L.length - (RowKit.intOf i).toNat)
 case atStart => exact ⟨0, Nat.zero_le _, rfl, World.ownsRow_nil _ _ _ _, Below.refl _ _⟩
 case round =>
  obtain ⟨k, hk, rfl, hown, hbw⟩ := hrel
  have hflen : ((L.take k).filter nameL).length ≤ 100000 := by
   have h1 := List.length_filter_le nameL (L.take k)
   rw [List.length_take] at h1
   omega
  by_cases hlt : k < L.length
  ·obtain ⟨gl, rfl, hc⟩ := HX.out k hlt
   have hc' := cell_later hbw hc
   have hnx := filter_next L k hlt
   have hxl : (L.getD k []).length ≤ 1000000 := HS.out _ (by
    have : L.getD k [] = L[k] := by simp [hlt]
    rw [this]
    exact List.getElem_mem hlt)
   have HTr := Lib.hid (Utf8Tabs_below HT.out hbw)
   have HI := Lib.hid (nis_any (L.getD k []) hxl)
   obtain ⟨x, hx⟩ : ∃ x, L.getD k [] = x := ⟨_, rfl⟩
   rw [hx] at hc' hnx HI
   obtain ⟨M, hM⟩ : ∃ M, (L.take k).filter nameL = M := ⟨_, rfl⟩
   rw [hM] at hown hnx hflen
   clear hc hx hxl hM
   cases hn : nameL x with
   | false =>
    rw [hn] at hnx HI
    simp only [Bool.false_eq_true, if_false, List.append_nil] at hnx
    have HN := Lib.hid hnx
    clear hnx hn
    go_wp2_with fail
    refine (HI.out _ HTr.out).mono ?_
    rintro e w1 ⟨rfl, hb1⟩
    go_wp2_with fail
    go_roundw
    case rel => exact ⟨k + 1, by omega, by go_num, by rw [HN.out]; exact owns_below hown hb1, below_next hbw hb1⟩
    case measure => simp [RowKit.intOf]; omega
   | true =>
    rw [hn] at hnx HI
    simp only [if_true] at hnx
    have HN := Lib.hid hnx
    clear hnx hn
    go_wp2_with fail
    refine (HI.out _ HTr.out).mono ?_
    rintro e w1 ⟨rfl, hb1⟩
    have hown1 := owns_below hown hb1
    have hbw1 := below_next hbw hb1
    clear hown hb1 hbw
    go_wp2_with (at_builtin; refine wpList_append_own _ rfl _ _ 22 rfl w.heap.size 9 i0 (.string ByteArray.empty) 1 16 Tryz.underlying22 hi hz0 hz1 hz2 rfl (by decide) _ _ _ rfl (hown1.alloc _) ⟨w1.heap.size, 0, none⟩ 1 1 [.string (bs x)] rfl rfl (news_txt _ _ _) (ones_txt _) (by unfold maxLen; omega) (by omega) (by have := hbw1.size; simp; omega) ?_)
    intro v' w4 hown4 hgrow hnil
    have hb4 : Below w.heap.size w w4 := (hbw1.alloc hbw1.size _).grown hgrow (by have := hbw1.size; simp; omega) (fun k hk => (hown1.lt k hk).1)
    have HO : RowKit.Hid (w4.ownsRow w.heap.size 9 1 v' (M ++ [x]).length (strs (M ++ [x]))) := Lib.hid (by
     rw [← strs_snoc, List.length_append]
     exact hown4)
    clear hown4 hgrow hnil hown1 hbw1
    go_wp2_with fail
    go_roundw
    case rel => exact ⟨k + 1, by omega, by go_num, by rw [HN.out]; exact HO.out, hb4⟩
    case measure => simp [RowKit.intOf]; omega
  ·have hke : k = L.length := by omega
   subst hke
   rw [List.take_length] at hown hflen
   have hmem : ∀ y, y ∈ L.filter nameL ↔ y ∈ L ∧ nameL y = true := fun y => List.mem_filter
   obtain ⟨M, hM⟩ : ∃ M, L.filter nameL = M := ⟨_, rfl⟩
   rw [hM] at hown hflen hmem
   clear hM
   obtain ⟨d, hd⟩ := lift_names M (fun x hx => ((hmem x).1 hx).2)
   have hspec := sort_spec d L (by rw [hd]; exact hmem)
   by_cases hM0 : M = []
   ·subst hM0
    have hd0 : d = [] := by
     cases d with
     | nil => rfl
     | cons a t => exact absurd hd (by simp)
    subst hd0
    have hnw : NewV w.heap.size _ := fun g e => (hown.lt g e).1
    obtain ⟨q, cq, hv, -⟩ := own_texts hown
    subst hv
    have hsn : R = [] := by rw [← HR.out, ← hspec]; simp [compact, compactUpTo]
    have H1 := Lib.hid (AnyF.slices_SortFunc_none Tryz.laysSort0 q cq (.func (.func 231) #[] #[]))
    have H2 := Lib.hid (Any.slices_Compact_string_empty Tryz.laysCompact q cq)
    clear hspec hown hmem
    go_wp2_with fail
    refine (H1.out _).mono ?_
    rintro e w1 ⟨rfl, rfl⟩
    go_wp2_with fail
    refine (H2.out _).mono ?_
    rintro e w1 ⟨rfl, rfl⟩
    go_wp2_with fail
    go_ret
    rw [hsn]
    exact ⟨_, rfl, ⟨q, cq, rfl, fun j hj => absurd hj (Nat.not_lt_zero j)⟩, hnw, hbw⟩
   ·obtain ⟨-, ⟨-, hn⟩ | ⟨g, cq, cur, rfl, hgB, hcur, hcq, -, hcsz, htk⟩⟩ := id hown
    ·exact absurd (List.eq_nil_of_length_eq_zero hn) hM0
    ·have hH := holds_own hd hcur htk hcq
     have hg := (Array.getElem?_eq_some_iff.1 hcur).1
     have hsz : d.toArray.size = M.length := by rw [← hd]; simp
     have H1 := Lib.hid (sort_names g cq d.toArray wr hH hg (by rw [hsz]; omega))
     rw [hsz] at H1
     have HS2 := Lib.hid hspec
     clear hown hcur htk hcsz hspec
     go_wp2_with fail
     refine H1.out.mono ?_
     rintro e w1 ⟨rfl, nn, os, hw1⟩
     have hH1 : Holds encN w1 g 0 (d.mergeSort leN).toArray := by
      rw [hw1]
      exact holds_sortWorld encN wr g 0 nn d.toArray _ os hg hH (by simp [List.length_mergeSort])
     have hB1 : Below w.heap.size w w1 := by
      rw [hw1]
      exact below_sortWorld hbw hgB
     have hH2 := holds_str (d.mergeSort leN) hH1
     have hSl : ((d.mergeSort leN).map (·.1)).length = M.length := by
      rw [List.length_map, List.length_mergeSort, ← hd, List.length_map]
     have hcl : (compact ((d.mergeSort leN).map (·.1))).length ≤ ((d.mergeSort leN).map (·.1)).length := compact_length_le _
     have H2 := Lib.hid (compact_names g cq _ w1 hH2 (by omega) (by omega))
     rw [hSl] at H2
     clear hw1 hH1
     go_wp2_with fail
     refine H2.out.mono ?_
     rintro e w2 ⟨rfl, q2, hw2⟩
     have hB2 : Below w.heap.size w w2 := by
      rw [hw2]
      exact below_putRow hB1 hgB
     have hT2 := texts_put (q := q2) hcl hH2
     rw [hSl, ← hw2] at hT2
     rw [HS2.out, HR.out] at hT2 ⊢
     clear hw2 hH2 hB1 hbw H2 H1
     go_wp2_with fail
     go_ret
     exact ⟨_, rfl, ⟨_, cq, rfl, hT2⟩, (fun g' e => by simp [Value.ownBlock] at e; omega), hB2⟩
end
section
open Go.RowKit Go.Lib
theorem getD_mem (L : List (List UInt8)) (k : Nat) (h : k < L.length) : L.getD k [] ∈ L := by
 have : L.getD k [] = L[k] := by simp [h]
 rw [this]
 exact List.getElem_mem h
def TextsS (w : World) (v : Value) (L : List (List UInt8)) : Prop := ∃ g cap, v = .slice (some ⟨g, 0, none⟩) L.length cap ∧ L.length ≤ cap ∧ ∀ j, j < L.length → w.cell? ⟨g, j, none⟩ = some (.string (bs (L.getD j [])))
theorem TextsS.below {w w' : World} {v : Value} {L : List (List UInt8)} (h : TextsS w v L) (hb : Below w.heap.size w w') : TextsS w' v L := by
 obtain ⟨g, cap, hv, hc, ht⟩ := h
 exact ⟨g, cap, hv, hc, fun j hj => cell_later hb (ht j hj)⟩
theorem own_textsS {w : World} {B : Nat} {e : TypeId} {v : Value} {L : List (List UInt8)} (h : w.ownsRow B e 1 v L.length (strs L)) (hn : v ≠ .slice none 0 0) : TextsS w v L := by
 obtain ⟨-, ⟨h0, -⟩ | ⟨g, cap, cur, hv, -, hw, hc, -, -, ht⟩⟩ := h
 ·exact absurd h0 hn
 ·refine ⟨g, cap, hv, hc, fun j hj => ?_⟩
  have h1 := congrArg (fun x : List Value => x[j]?) ht
  simp only [Nat.mul_one, List.getElem?_take, hj, if_true, Array.getElem?_toList] at h1
  rw [cell_of_row w g j _ _ (0, 0) hw, h1]
  simp [strs, hj]
theorem step_append_own {P : Program} {w : World} {ops : Array Oper} {o : Oper} {a : Act} {K : Act → World → Prop} {Q : Exit → Act → World → Prop} {E : Prop} (hgd : o.guard = none) (s x : Operand) (t : TypeId)
  (ho : o.op = .call { callee := .builtin .append, args := #[s, x], argTypes := #[t, t] })
  (base : Nat) (e : TypeId) (i : TypeInfo) (z : Value) (size bytes : Nat) (ht : P.underlying t = some (.slice e)) (hi : P.info? e = some i) (hz : i.zero = some z)
  (hsize : i.size = size) (hby : i.bytes = bytes) (hzs : z.cells.size = size) (hsz : 0 < size)
  (v : Value) (n : Nat) (xs : List Value) (hs : a.eval s = v) (hown : w.ownsRow base e size v n xs)
  (ad : Addr) (m c : Nat) (news : List Value) (hx : a.eval x = .slice (some ad) m c) (hl : news.length = m * size) (hnews : ∀ j u, news[j]? = some u → w.cell? (ad.add j) = some u) (h1 : ∀ u ∈ news, u.oneCell' = true)
  (h63 : n + m ≤ maxLen) (hbytes : (n + m) * bytes ≤ 140737488355328) (hbase : base ≤ w.heap.size)
  (h : ∀ v' w', w'.ownsRow base e size v' (n + m) (xs ++ news) → w.grownBy w' v.ownBlock → (v' = .slice none 0 0 ↔ v = .slice none 0 0 ∧ m = 0) → K (a.put o.dst v') w') :
  if Region.wanted o (yielded ops a.tmps) = true then Oper.wp P o a w K Q else E := by
 have hw : Region.wanted o (yielded ops a.tmps) = true := by simp [Region.wanted, hgd]
 rw [if_pos hw]
 exact wp_append_own w s x t ho base e i z size bytes ht hi hz hsize hby hzs hsz v n xs hs hown ad m c news hx hl hnews h1 h63 hbytes hbase h
theorem news_str' (w : World) (x : ByteArray) (e : TypeId) : ∀ (j : Nat) (u : Value), ([.string x] : List Value)[j]? = some u → (w.alloc (.cells #[.string x] e)).cell? ((⟨w.heap.size, 0, none⟩ : Addr).add j) = some u := by
 intro j u hj
 match j, hj with
 | 0, hj => simp at hj; subst hj; simp [Addr.add]
theorem own_empty {w : World} {b B : Nat} (h : w.heap[b]? = some (.cells #[] 9 (0, 0))) (hb : B ≤ b) : w.ownsRow B 9 1 (.slice (some ⟨b, 0, none⟩) 0 0) 0 [] :=
 ⟨rfl, .inr ⟨b, 0, #[], rfl, hb, h, Nat.le_refl _, Nat.zero_le _, rfl, rfl⟩⟩
theorem heap2_new (w : World) (A B : Obj) : ((w.alloc A).alloc B).heap[w.heap.size + 1]? = some B := by
 have h := heap_alloc_new (w.alloc A) B
 rwa [show (w.alloc A).heap.size = w.heap.size + 1 by simp] at h
theorem heap2_old (w : World) (A B : Obj) : ((w.alloc A).alloc B).heap[w.heap.size]? = some A := by
 rw [heap_alloc_old (w.alloc A) B (by simp)]
 exact heap_alloc_new w A
theorem news_block {w : World} {b : Nat} {x : ByteArray} {e : TypeId} (h : w.heap[b]? = some (.cells #[.string x] e (0, 0))) : ∀ (j : Nat) (u : Value), ([.string x] : List Value)[j]? = some u → w.cell? ((⟨b, 0, none⟩ : Addr).add j) = some u := by
 intro j u hj
 rw [Addr.add_lit, Nat.zero_add, cell_of_row w b j _ _ (0, 0) h]
 simpa using hj
theorem ones_one (x : ByteArray) : ∀ u ∈ ([.string x] : List Value), u.oneCell' = true := by
 intro u hu
 simp at hu
 subst hu
 rfl
theorem keep_alloc {a W : World} (h : Below a.heap.size a W) (o : Obj) : Below a.heap.size a (W.alloc o) := h.alloc h.size o
theorem keep_grown {a W W' : World} {v : Value} {n : Nat} {xs : List Value} {e : TypeId} {z : Nat} (h : Below a.heap.size a W) (hown : W.ownsRow a.heap.size e z v n xs) (hg : W.grownBy W' v.ownBlock) : Below a.heap.size a W' :=
 h.grown hg h.size (fun k hk => (hown.lt k hk).1)
theorem cells_from (W : World) (g o : Nat) (S : List (List UInt8)) (h : ∀ q, q < S.length → W.cell? ⟨g, o + q, none⟩ = some (.string (bs (S.getD q [])))) : ∀ (j : Nat) (u : Value), (strs S)[j]? = some u → W.cell? ((⟨g, o, none⟩ : Addr).add j) = some u := by
 intro j u hj
 have hjl : j < S.length := by
  have := (List.getElem?_eq_some_iff.1 hj).1
  simpa [strs] using this
 rw [Addr.add_lit, h j hjl, ← hj]
 simp [strs, hjl]
theorem ones_strs (S : List (List UInt8)) : ∀ u ∈ strs S, u.oneCell' = true := by
 intro u hu
 obtain ⟨x, -, rfl⟩ := List.mem_map.1 hu
 rfl
end
section
open Go.RowKit Go.Lib
set_option maxRecDepth 100000 in
set_option maxHeartbeats 1000000 in
theorem index_any (w : World) (v : Value) (L : List (List UInt8)) (s : List UInt8) (hv : Texts w v L) (hL : L.length ≤ 1000000) :
  Calls Tryz.prog 162 #[v, .string (bs s)] w fun e w' => e = .returned (.int .i64 (idxI L s)) ∧ w = w' := by
 obtain ⟨p, c, rfl, hp⟩ := hv
 have HX := Lib.hid hp
 have HA := Lib.hid (idxI_at L s)
 have HZ := Lib.hid (idxI_none L s)
 obtain ⟨R, hR⟩ : ∃ R, idxI L s = R := ⟨_, rfl⟩
 rw [hR] at HA HZ ⊢
 clear hp hR
 go_enter Tryz.func162, Tryz.ntmps162
 go_wp2_with fail
 go_loopw [8] (fun i wr => ∃ k : Nat, k ≤ L.length ∧ i = .int .i64 k ∧ wr = w ∧ ∀ j, j < k → L.getD j [] ≠ s) (fun i _ => L.length - (RowKit.intOf i).toNat)
 case atStart => exact ⟨0, Nat.zero_le _, rfl, rfl, fun j hj => absurd hj (Nat.not_lt_zero j)⟩
 case round =>
  obtain ⟨k, hk, rfl, rfl, hn⟩ := hrel
  have HN := Lib.hid hn
  clear hn
  by_cases hlt : k < L.length
  ·obtain ⟨g, rfl, hc⟩ := HX.out k hlt
   by_cases he : L.getD k [] = s
   ·have H1 := Lib.hid (HA.out k hlt he HN.out)
    rw [he] at hc
    clear he
    go_wp2_with fail
    go_ret
    exact ⟨by rw [H1.out]; rfl, rfl⟩
   ·obtain ⟨x, hx⟩ : ∃ x, L.getD k [] = x := ⟨_, rfl⟩
    have he0 : L.getD k [] ≠ s := he
    have H1 : RowKit.Hid (∀ j, j < k + 1 → L.getD j [] ≠ s) := Lib.hid (by
     intro j hj
     by_cases hjk : j < k
     ·exact HN.out j hjk
     ·obtain rfl : j = k := by omega
      exact he0)
    rw [hx] at hc he
    have e1 : (s == x) = false := beq_eq_false_iff_ne.2 fun e => he e.symm
    clear he0 he hx
    go_wp2_with fail
    go_roundw
    case rel => exact ⟨k + 1, by omega, by go_num, trivial, H1.out⟩
    case measure => simp [RowKit.intOf]; omega
  ·have hke : k = L.length := by omega
   subst hke
   have H1 := Lib.hid (HZ.out HN.out)
   go_wp2_with fail
   go_ret
   exact ⟨by rw [H1.out]; rfl, rfl⟩
theorem good_len (L : List (List UInt8)) (k : Nat) (hs : ∀ x ∈ L, x.length ≤ 1000000) : (L.getD k []).length ≤ 1000000 := by
 by_cases h : k < L.length
 ·exact hs _ (getD_mem L k h)
 ·rw [List.getD_eq_getElem?_getD, List.getElem?_eq_none (by omega)]
  simp
set_option maxRecDepth 100000 in
set_option maxHeartbeats 2000000 in
theorem tis_any (w : World) (v : Value) (L : List (List UInt8)) (hv : Texts w v L) (hL : L.length ≤ 1000000) (hs : ∀ x ∈ L, x.length ≤ 1000000) (hT : Lib.Utf8Tabs 1 2 w) :
  Calls Tryz.prog 161 #[v] w fun e w' => e = .returned (.bool (isT L)) ∧ Below w.heap.size w w' := by
 obtain ⟨p, c, rfl, hp⟩ := hv
 have HX := Lib.hid hp
 have HS := Lib.hid hs
 have HT := Lib.hid hT
 have HA := Lib.hid (isT_no L)
 have HZ := Lib.hid (isT_yes L)
 obtain ⟨R, hR⟩ : ∃ R, isT L = R := ⟨_, rfl⟩
 rw [hR] at HA HZ ⊢
 clear hp hs hT hR
 go_enter Tryz.func161, Tryz.ntmps161
 go_wp2_with fail
 go_loopw [7] (fun i wr => ∃ k : Nat, k ≤ L.length ∧ i = .int .i64 k ∧ (∀ j, j < k → goodT L j = true) ∧ Below w.heap.size w wr) (fun i _ => L.length - (RowKit.intOf i).toNat)
 case atStart => exact ⟨0, Nat.zero_le _, rfl, fun j hj => absurd hj (Nat.not_lt_zero j), Below.refl _ _⟩
 case round =>
  obtain ⟨k, hk, rfl, hn, hbw⟩ := hrel
  have HN := Lib.hid hn
  clear hn
  by_cases hlt : k < L.length
  ·have HTr := Lib.hid (Utf8Tabs_below HT.out hbw)
   have hstep : goodT L k = true → ∀ j, j < k + 1 → goodT L j = true := fun hg j hj => by
    by_cases hjk : j < k
    ·exact HN.out j hjk
    ·obtain rfl : j = k := by omega
     exact hg
   have HStep := Lib.hid hstep
   have HNo := Lib.hid (HA.out k hlt)
   clear hstep
   cases k with
   | zero =>
    obtain ⟨g, rfl, hc⟩ := HX.out 0 hlt
    have hc' := cell_later hbw hc
    have HI := Lib.hid (nis_any (L.getD 0 []) (good_len L 0 HS.out))
    have hg0 := good_first L
    obtain ⟨x, hx⟩ : ∃ x, L.getD 0 [] = x := ⟨_, rfl⟩
    rw [hx] at hc' HI hg0
    clear hc hx
    cases hnx : nameL x with
    | false =>
     rw [hnx] at HI hg0
     have H1 := Lib.hid (HNo.out hg0)
     clear hnx hg0
     go_wp2_with fail
     refine (HI.out _ HTr.out).mono ?_
     rintro e w1 ⟨rfl, hb1⟩
     go_wp2_with fail
     go_ret
     exact ⟨by rw [H1.out]; rfl, below_next hbw hb1⟩
    | true =>
     rw [hnx] at HI hg0
     have H1 := Lib.hid (HStep.out hg0)
     clear hnx hg0
     go_wp2_with fail
     refine (HI.out _ HTr.out).mono ?_
     rintro e w1 ⟨rfl, hb1⟩
     go_wp2_with fail
     go_roundw
     case rel => exact ⟨1, by omega, rfl, H1.out, below_next hbw hb1⟩
     case measure => simp [RowKit.intOf]; omega
   | succ q =>
    obtain ⟨g, rfl, hc⟩ := HX.out (q + 1) hlt
    obtain ⟨g', hg', hd⟩ := HX.out q (by omega)
    obtain rfl : g = g' := by simpa using hg'
    have hc' := cell_later hbw hc
    have HI := Lib.hid (nis_any (L.getD (q + 1) []) (good_len L (q + 1) HS.out))
    have HL := Lib.hid (nless_any (L.getD q []) (L.getD (q + 1) []) (good_len L q HS.out) (good_len L (q + 1) HS.out))
    have hg0 := good_next L q
    have hlt0 : ltN (L.getD q []) (L.getD (q + 1) []) = lexLess (runesU (L.getD q [])) (runesU (L.getD (q + 1) [])) := rfl
    obtain ⟨x, hx⟩ : ∃ x, L.getD (q + 1) [] = x := ⟨_, rfl⟩
    obtain ⟨y, hy⟩ : ∃ y, L.getD q [] = y := ⟨_, rfl⟩
    rw [hx] at hc' HI HL hg0 hlt0
    rw [hy] at hd HL hg0 hlt0
    rw [← hlt0] at HL
    have hd' := cell_later hbw hd
    have c3 : (0 : Int) < (q : Int) + 1 := by omega
    clear hc hx hy hlt0 hg'
    cases hnx : nameL x with
    | false =>
     rw [hnx] at HI hg0
     have H1 := Lib.hid (HNo.out hg0)
     clear hnx hg0
     go_wp2_with fail
     refine (HI.out _ HTr.out).mono ?_
     rintro e w1 ⟨rfl, hb1⟩
     go_wp2_with fail
     go_ret
     exact ⟨by rw [H1.out]; rfl, below_next hbw hb1⟩
    | true =>
     rw [hnx, Bool.true_and] at hg0
     rw [hnx] at HI
     cases hl : ltN y x with
     | false =>
      rw [hl] at HL hg0
      have H1 := Lib.hid (HNo.out hg0)
      clear hnx hg0 hl
      go_wp2_with fail
      refine (HI.out _ HTr.out).mono ?_
      rintro e w1 ⟨rfl, hb1⟩
      have hb2 := below_next hbw hb1
      have hd2 := cell_later hb2 hd
      clear hd' hc' hd hb1
      go_wp2_with fail
      refine (HL.out _).mono ?_
      rintro e w2 ⟨rfl, hb3⟩
      go_wp2_with fail
      go_ret
      exact ⟨by rw [H1.out]; rfl, below_next hb2 hb3⟩
     | true =>
      rw [hl] at HL hg0
      have H1 := Lib.hid (HStep.out hg0)
      clear hnx hg0 hl
      go_wp2_with fail
      refine (HI.out _ HTr.out).mono ?_
      rintro e w1 ⟨rfl, hb1⟩
      have hb2 := below_next hbw hb1
      have hd2 := cell_later hb2 hd
      clear hd' hc' hd hb1
      go_wp2_with fail
      refine (HL.out _).mono ?_
      rintro e w2 ⟨rfl, hb3⟩
      go_wp2_with fail
      go_roundw
      case rel => exact ⟨q + 1 + 1, by omega, by go_num, H1.out, below_next hb2 hb3⟩
      case measure => simp [RowKit.intOf]; omega
  ·have hke : k = L.length := by omega
   subst hke
   have H1 := Lib.hid (HZ.out HN.out)
   go_wp2_with fail
   go_ret
   exact ⟨by rw [H1.out]; rfl, hbw⟩
end
section
open Go.RowKit Go.Lib
set_option maxRecDepth 100000 in
set_option maxHeartbeats 1000000 in
theorem make_new (w : World) (v : Value) (L : List (List UInt8)) (h : Texts w v L) (hL : L.length ≤ 100000) (hs : ∀ x ∈ L, x.length ≤ 1000000) (hT : Lib.Utf8Tabs 1 2 w) :
  Calls Tryz.prog 160 #[v] w fun e w' => ∃ v', e = .returned v' ∧ Texts w' v' (sortedN L) ∧ NewV w.heap.size v' ∧ Below w.heap.size w w' := by
 have H1 := Lib.hid (nsorted_new w v L h hL hs hT)
 clear h hL hs hT
 obtain ⟨R, hR⟩ : ∃ R, sortedN L = R := ⟨_, rfl⟩
 rw [hR] at H1 ⊢
 clear hR
 go_enter Tryz.func160, Tryz.ntmps160
 go_wp2_with fail
 refine H1.out.mono ?_
 rintro e w1 ⟨v1, rfl, ht, hn, hb⟩
 go_wp2_with fail
 go_ret
 exact ⟨_, rfl, ht, hn, hb⟩
set_option maxRecDepth 100000 in
set_option maxHeartbeats 1000000 in
theorem find_any (w : World) (v : Value) (L : List (List UInt8)) (s : List UInt8) (hv : Texts w v L) (hL : L.length ≤ 1000000) (hs : ∀ x ∈ L, x.length ≤ 1000000) (hT : Lib.Utf8Tabs 1 2 w) :
  Calls Tryz.prog 119 #[v, .string (bs s)] w fun e w' => e = .returned (.tuple #[.int .i64 ((findT L s).1 : Nat), .bool (findT L s).2]) ∧ Below w.heap.size w w' := by
 have H1 := Lib.hid (tis_any w v L hv hL hs hT)
 have H2 := Lib.hid (fun w' (h : Texts w' v L) => index_any w' v L s h hL)
 have HV := Lib.hid hv
 obtain ⟨r1, r2⟩ := idxI_range L s
 cases ht : isT L with
 | false =>
  rw [ht] at H1
  have HF := Lib.hid (find_not L s ht)
  generalize findT L s = F at *
  clear hv hL hs hT ht r1 r2
  go_enter Tryz.func119, Tryz.ntmps119
  go_wp2_with fail
  refine H1.out.mono ?_
  rintro e w1 ⟨rfl, hb⟩
  go_wp2_with fail
  go_ret2
  exact ⟨by rw [HF.out]; rfl, hb⟩
 | true =>
  rw [ht] at H1
  have hF := find_idx L s ht
  generalize findT L s = F at *
  generalize idxI L s = I at *
  subst hF
  clear hv hs hT ht
  by_cases h0 : 0 ≤ I
  ·have e1 : decide (0 ≤ I) = true := decide_eq_true h0
   have e2 : (max I 0 : Int) = I := by omega
   have e3 : ((max I 0).toNat : Int) = I := by omega
   simp only [e3, e1]
   clear e1 e3
   go_enter Tryz.func119, Tryz.ntmps119
   go_wp2_with fail
   refine H1.out.mono ?_
   rintro e w1 ⟨rfl, hb⟩
   have HV1 := Lib.hid (HV.out.below hb)
   go_wp2_with fail
   refine (H2.out _ HV1.out).mono ?_
   rintro e w2 ⟨rfl, rfl⟩
   go_wp2_with fail
   go_ret2
   exact ⟨rfl, hb⟩
  ·have e1 : decide (0 ≤ I) = false := decide_eq_false h0
   have e2 : (max I 0 : Int) = 0 := by omega
   have e3 : ((max I 0).toNat : Int) = 0 := by omega
   simp only [e3, e1]
   have E1 := Lib.hid e1
   clear e1 e3
   go_enter Tryz.func119, Tryz.ntmps119
   go_wp2_with fail
   refine H1.out.mono ?_
   rintro e w1 ⟨rfl, hb⟩
   have HV1 := Lib.hid (HV.out.below hb)
   go_wp2_with fail
   refine (H2.out _ HV1.out).mono ?_
   rintro e w2 ⟨rfl, rfl⟩
   go_wp2_with fail
   go_ret2
   refine ⟨?_, hb⟩
   show Ending.returned (.tuple #[.int .i64 0, .bool (decide (0 ≤ I))]) = _
   rw [E1.out]
end
section
open Go.RowKit
theorem news_int (w : World) (x : Int) (e : TypeId) : ∀ (j : Nat) (u : Value), ([.int .i64 x] : List Value)[j]? = some u → (w.alloc (.cells #[.int .i64 x] e)).cell? ((⟨w.heap.size, 0, none⟩ : Addr).add j) = some u := by
 intro j u hj
 match j, hj with
 | 0, hj => simp at hj; subst hj; simp [Addr.add]
theorem ones_int (x : Int) : ∀ u ∈ ([.int .i64 x] : List Value), u.oneCell' = true := by
 intro u hu
 simp at hu
 subst hu
 rfl
end
section
open Go.RowKit
def HasInts (w : World) (p : Option Addr) (L : List Int) : Prop := ∀ j, j < L.length → ∃ g, p = some ⟨g, 0, none⟩ ∧ w.cell? ⟨g, j, none⟩ = some (.int .i64 (L.getD j 0))
theorem HasInts.below {w w' : World} {p : Option Addr} {L : List Int} (h : HasInts w p L) (hb : Below w.heap.size w w') : HasInts w' p L := fun j hj => by
 obtain ⟨g, hp, hc⟩ := h j hj
 exact ⟨g, hp, cell_later hb hc⟩
def IntsS (w : World) (v : Value) (L : List Int) : Prop := ∃ p cap, v = .slice p L.length cap ∧ HasInts w p L
theorem IntsS.below {w w' : World} {v : Value} {L : List Int} (h : IntsS w v L) (hb : Below w.heap.size w w') : IntsS w' v L := by
 obtain ⟨p, cap, hv, ht⟩ := h
 exact ⟨p, cap, hv, ht.below hb⟩
theorem ints_none (w : World) : IntsS w (.slice none 0 0) [] := ⟨none, 0, rfl, fun j hj => absurd hj (Nat.not_lt_zero j)⟩
def vints (L : List Int) : List Value := L.map fun n => .int .i64 n
theorem vints_snoc (L : List Int) (n : Int) : vints L ++ [.int .i64 n] = vints (L ++ [n]) := by simp [vints]
theorem vints_set (L : List Int) (j : Nat) (n : Int) : (vints L).set j (.int .i64 n) = vints (L.set j n) := by simp [vints, List.map_set]
theorem own_intsI {w : World} {B : Nat} {e : TypeId} {v : Value} {L : List Int} (h : w.ownsRow B e 1 v L.length (vints L)) : IntsS w v L := by
 obtain ⟨-, ⟨h0, hn⟩ | ⟨g, cap, cur, hv, -, hw, -, -, -, ht⟩⟩ := h
 ·have : L = [] := List.eq_nil_of_length_eq_zero hn
  subst this h0
  exact ints_none w
 ·refine ⟨_, cap, hv, fun j hj => ⟨g, rfl, ?_⟩⟩
  have h1 := congrArg (fun x : List Value => x[j]?) ht
  simp only [Nat.mul_one, List.getElem?_take, hj, if_true, Array.getElem?_toList] at h1
  rw [cell_of_row w g j _ _ (0, 0) hw, h1]
  simp [vints, hj]
theorem info_i64 : (Tryz.prog.info? 3).map (fun i => (i.zero, i.size, i.bytes)) = some (some (.int .i64 0), 1, 8) := by kernel_rfl
theorem ints_same_step (L M : List Int) (i : Nat) (R : Bool) (hl : L.length = M.length) (hi : i < L.length) (h : (L.drop i == M.drop i) = R) : (if L.getD i 0 = M.getD i 0 then (L.drop (i + 1) == M.drop (i + 1)) else false) = R := by
 have e1 : L.drop i = L.getD i 0 :: L.drop (i + 1) := by
  rw [List.drop_eq_getElem_cons hi]
  simp [hi]
 have e2 : M.drop i = M.getD i 0 :: M.drop (i + 1) := by
  rw [List.drop_eq_getElem_cons (by omega)]
  simp [hl ▸ hi]
 rw [e1, e2] at h
 rw [← h]
 by_cases hc : L.getD i 0 = M.getD i 0
 ·rw [if_pos hc, hc]
  simp
 ·rw [if_neg hc]
  exact (beq_eq_false_iff_ne.2 fun e => hc (List.cons.inj e).1).symm
set_option maxRecDepth 100000 in
set_option maxHeartbeats 1000000 in
theorem sameints_at (w : World) (p q : Option Addr) (c d : Nat) (L M : List Int) (hp : HasInts w p L) (hq : HasInts w q M) (hL : L.length ≤ 4611686018427387904) :
  Calls Tryz.prog 31 #[.slice p L.length c, .slice q M.length d] w fun e w' => e = .returned (.bool (L == M)) ∧ Below w.heap.size w w' := by
 have HP := Lib.hid hp
 have HQ := Lib.hid hq
 clear hp hq
 by_cases hl : L.length = M.length
 ·obtain ⟨R, hR⟩ : ∃ R, (L == M) = R := ⟨_, rfl⟩
  rw [hR]
  have HR := Lib.hid hR
  clear hR
  go_enter Tryz.func31, Tryz.ntmps31
  go_wp2
  go_loopw [5] (fun i wr => ∃ k n : Nat, k ≤ L.length ∧ i = .int .i64 k ∧ wr = w.drewN n ∧ (L.drop k == M.drop k) = R) (fun i _ => L.length - (RowKit.intOf i).toNat)
  case atStart => exact ⟨0, 0, Nat.zero_le _, rfl, rfl, HR.out⟩
  case round =>
   obtain ⟨k, n, hk, rfl, rfl, hr⟩ := hrel
   by_cases hlt : k < L.length
   ·obtain ⟨g, rfl, h1⟩ := HP.out k hlt
    obtain ⟨g2, rfl, h2⟩ := HQ.out k (by omega)
    have HS := Lib.hid (ints_same_step L M k R hl hlt hr)
    clear hr
    generalize L.getD k 0 = x at *
    generalize M.getD k 0 = y at *
    by_cases hxy : x = y
    ·have H1 := HS.out
     rw [if_pos hxy] at H1
     have H2 := Lib.hid H1
     subst hxy
     clear H1 HS
     go_wp2_with fail
     go_region
     go_wp2_with fail
     go_roundw
     case rel => exact ⟨k + 1, n + 1, by omega, by go_num, rfl, H2.out⟩
     case measure => simp [RowKit.intOf]; omega
    ·have H1 := HS.out
     rw [if_neg hxy] at H1
     have H2 := Lib.hid H1
     have e1 : (x != y) = true := by simpa using hxy
     clear H1 HS hxy
     go_wp2_with fail
     go_region
     go_wp2_with fail
     go_ret
     exact ⟨by rw [← H2.out]; rfl, (Go.below_drewN (Below.refl _ _) n).drew⟩
   ·have e1 : L.drop k = [] := List.drop_eq_nil_of_le (by omega)
    have e2 : M.drop k = [] := List.drop_eq_nil_of_le (by omega)
    rw [e1, e2] at hr
    have H2 := Lib.hid hr
    clear hr e1 e2
    go_wp2_with fail
    go_ret
    exact ⟨by rw [← H2.out]; rfl, Go.below_drewN (Below.refl _ _) n⟩
 ·have e : (L == M) = false := beq_eq_false_iff_ne.2 fun h => hl (congrArg List.length h)
  rw [e]
  have e1 : ((L.length : Int) != (M.length : Int)) = true := by simp; omega
  clear e hl
  go_enter Tryz.func31, Tryz.ntmps31
  go_wp2_with fail
  go_ret
  exact ⟨rfl, Below.refl _ _⟩
theorem sameints_any (w : World) (v v' : Value) (L M : List Int) (hv : IntsS w v L) (hv' : IntsS w v' M) (hL : L.length ≤ 4611686018427387904) :
  Calls Tryz.prog 31 #[v, v'] w fun e w' => e = .returned (.bool (L == M)) ∧ Below w.heap.size w w' := by
 obtain ⟨p, c, rfl, hp⟩ := hv
 obtain ⟨q, d, rfl, hq⟩ := hv'
 exact sameints_at w p q c d L M hp hq hL
end
section
open Go.RowKit Go.Lib
def partM (fr M : List (List UInt8)) (k : Nat) : List Int := (fr.take k).map (numT M) ++ List.replicate (fr.length - k) 0
theorem partM_len (fr M : List (List UInt8)) (k : Nat) (hk : k ≤ fr.length) : (partM fr M k).length = fr.length := by
 unfold partM
 simp only [List.length_append, List.length_map, List.length_take, List.length_replicate]
 omega
theorem partM_next (fr M : List (List UInt8)) (k : Nat) (hk : k < fr.length) : (partM fr M k).set k (numT M (fr.getD k [])) = partM fr M (k + 1) := by
 unfold partM
 have hl : ((fr.take k).map (numT M)).length = k := by simp; omega
 obtain ⟨r, hr⟩ : ∃ r, fr.length - k = r + 1 := ⟨fr.length - k - 1, by omega⟩
 have hr2 : fr.length - (k + 1) = r := by omega
 rw [hr, hr2, List.set_append_right _ _ (by omega), hl, Nat.sub_self, List.replicate_succ, List.set_cons_zero, List.take_add_one, List.map_append]
 simp [hk]
theorem partM_all (fr M : List (List UInt8)) : partM fr M fr.length = mapT fr M := by simp [partM, mapT]
theorem made_ints (n : Nat) : (madeCells (Value.cells (.int .i64 0)) (n * 1)).toList = vints (List.replicate n 0) := by
 rw [Nat.mul_one]
 show (madeCells #[.int .i64 0] n).toList = _
 rw [toList_madeCells_one]
 simp [vints]
set_option maxRecDepth 100000 in
set_option maxHeartbeats 2000000 in
theorem map_new (w : World) (v v' : Value) (F L : List (List UInt8)) (hf : Texts w v F) (hv : Texts w v' L) (hF : F.length ≤ 10000) (hL : L.length ≤ 10000) (hs : ∀ x ∈ L, x.length ≤ 1000000) (hT : Lib.Utf8Tabs 1 2 w) :
  Calls Tryz.prog 120 #[v, v'] w fun e w' => ∃ v4, e = .returned v4 ∧ IntsS w' v4 (mapT F L) ∧ NewV w.heap.size v4 ∧ Below w.heap.size w w' := by
 obtain ⟨p, c, rfl, hp⟩ := hf
 have HX := Lib.hid hp
 have HV := Lib.hid hv
 have HT := Lib.hid hT
 have HS := Lib.hid hs
 obtain ⟨i0, hi, hz0, hz1, hz2⟩ := info_parts info_i64
 obtain ⟨w1, hmk, hown, hgrow⟩ := run_make_full (P := Tryz.prog) w w.heap.size 56 3 i0 (.int .i64 0) 1 Tryz.underlying56 hi hz0 hz1 .i64 .i64 F.length (by rw [hz2]; omega) (by unfold maxLen; omega) (Nat.le_refl _)
 rw [made_ints] at hown
 have hb1 : Below w.heap.size w w1 := (Below.refl _ _).grown hgrow (Nat.le_refl _) (fun k hk => by cases hk)
 have e0 : List.replicate F.length (0 : Int) = partM F L 0 := by simp [partM]
 rw [e0] at hown
 have HO := Lib.hid hown
 clear hown hgrow e0 hp hv hT hs
 go_enter Tryz.func120, Tryz.ntmps120
 go_wp2_with fail
 go_loopw [15] (fun i wr => ∃ k : Nat, k ≤ F.length ∧ i = .int .i64 k ∧ wr.ownsRow w.heap.size 3 1 (.slice (some ⟨w.heap.size, 0, none⟩) F.length F.length) F.length (vints (partM F L k)) ∧ Below w.heap.size w wr) (fun i _ => F.length - (RowKit.intOf i).toNat)
 case atStart => exact ⟨0, Nat.zero_le _, rfl, HO.out, hb1⟩
 case round =>
  obtain ⟨k, hk, rfl, hown, hbw⟩ := hrel
  by_cases hlt : k < F.length
  ·obtain ⟨g, rfl, hc⟩ := HX.out k hlt
   have hnx := partM_next F L k hlt
   have hlen := partM_len F L k hk
   obtain ⟨x, hx⟩ : ∃ x, F.getD k [] = x := ⟨_, rfl⟩
   rw [hx] at hc hnx
   have H1 := Lib.hid (fun w' (h : Texts w' v' L) (hT' : Lib.Utf8Tabs 1 2 w') => find_any w' v' L x h (by omega) HS.out hT')
   have hc' := cell_later hbw hc
   have HV1 := Lib.hid (HV.out.below hbw)
   have HT1 := Lib.hid (Utf8Tabs_below HT.out hbw)
   have HN := Lib.hid hnx
   unfold numT at hnx
   have HFx : RowKit.Hid (numT L x = if (findT L x).2 = true then ((findT L x).1 : Int) else -1) := Lib.hid rfl
   clear hx hc hnx
   generalize findT L x = Z at *
   obtain ⟨a, b⟩ := Z
   cases b with
   | false =>
    have HE : RowKit.Hid (numT L x = -1) := Lib.hid (by rw [HFx.out]; rfl)
    go_wp2_with fail
    refine (H1.out _ HV1.out HT1.out).mono ?_
    rintro e w2 ⟨rfl, hb2⟩
    have hown2 := owns_below hown hb2
    have hbw2 := below_next hbw hb2
    have q1 : w2.cell? ⟨w.heap.size, k, none⟩ = some (.int .i64 ((partM F L k).getD k 0)) := by
     rw [hown2.cellAt k (by omega)]
     simp [vints, hlen, hlt]
    have q2 := hown2.frozenAt k
    generalize (partM F L k).getD k 0 = old at q1
    clear hown hb2 hbw HV1 HT1
    go_wp2_with fail
    go_roundw
    case rel =>
     have st := hown2.stored k (.int .i64 (-1))
     rw [vints_set, ← HE.out, HN.out] at st
     exact ⟨k + 1, by omega, by go_num, by rw [← HE.out]; exact st.1, hbw2.grown (by rw [← HE.out]; exact st.2) hbw2.size (fun j hj => by cases hj; exact Nat.le_refl _)⟩
    case measure => simp [RowKit.intOf]; omega
   | true =>
    have HE : RowKit.Hid (numT L x = (a : Int)) := Lib.hid (by rw [HFx.out]; rfl)
    go_wp2_with fail
    refine (H1.out _ HV1.out HT1.out).mono ?_
    rintro e w2 ⟨rfl, hb2⟩
    have hown2 := owns_below hown hb2
    have hbw2 := below_next hbw hb2
    have q1 : w2.cell? ⟨w.heap.size, k, none⟩ = some (.int .i64 ((partM F L k).getD k 0)) := by
     rw [hown2.cellAt k (by omega)]
     simp [vints, hlen, hlt]
    have q2 := hown2.frozenAt k
    generalize (partM F L k).getD k 0 = old at q1
    clear hown hb2 hbw HV1 HT1
    go_wp2_with fail
    go_roundw
    case rel =>
     have st := hown2.stored k (.int .i64 (a : Int))
     rw [vints_set, ← HE.out, HN.out] at st
     exact ⟨k + 1, by omega, by go_num, by rw [← HE.out]; exact st.1, hbw2.grown (by rw [← HE.out]; exact st.2) hbw2.size (fun j hj => by cases hj; exact Nat.le_refl _)⟩
    case measure => simp [RowKit.intOf]; omega
  ·have hke : k = F.length := by omega
   subst hke
   rw [partM_all] at hown
   have HO2 : RowKit.Hid (IntsS wr (.slice (some ⟨w.heap.size, 0, none⟩) F.length F.length) (mapT F L)) := Lib.hid (own_intsI (L := mapT F L) (by simpa [mapT] using hown))
   clear hown
   go_wp2_with fail
   go_ret
   exact ⟨_, rfl, HO2.out, (fun g' e => by simp [Value.ownBlock] at e; omega), hbw⟩
end
section
open Go.RowKit Go.Lib
section
attribute [local go_sem] as_nil as_nil_lost as_int64 as_lost as_int64_no as_lost_no
set_option maxHeartbeats 2000000 in
theorem vmay_any (k n : Int) (w : World) :
  Calls Tryz.prog 181 #[.agg #[.int .i64 k, .int .i64 n]] w fun e w' => e = .returned (.bool (mayV k n)) ∧ Below w.heap.size w w' := by
 rcases may_cases k n with ⟨rfl, h⟩ | ⟨rfl, rfl, h⟩ | ⟨rfl, rfl, h⟩ | ⟨rfl, h1, h2, h⟩ | ⟨rfl, h1, h2, h⟩ | ⟨h1, h2, h3, h4, h⟩ <;> rw [h] <;> clear h
 all_goals
  go_enter Tryz.func181, Tryz.ntmps181
  go_wp2
  go_ret
  exact ⟨rfl, by go_grown⟩
set_option maxHeartbeats 2000000 in
theorem rvmay_any (k n : Int) (w : World) :
  Calls Tryz.prog 138 #[.agg #[.int .i64 k, .int .i64 n]] w fun e w' => e = .returned (.bool (mayV k n)) ∧ Below w.heap.size w w' := by
 rcases may_cases k n with ⟨rfl, h⟩ | ⟨rfl, rfl, h⟩ | ⟨rfl, rfl, h⟩ | ⟨rfl, h1, h2, h⟩ | ⟨rfl, h1, h2, h⟩ | ⟨h1, h2, h3, h4, h⟩ <;> rw [h] <;> clear h
 all_goals
  go_enter Tryz.func138, Tryz.ntmps138
  go_wp2
  go_ret
  exact ⟨rfl, by go_grown⟩
end
set_option maxHeartbeats 1000000 in
theorem within_any (n : Int) (p : Option Addr) (m c : Nat) (w : World) :
  Calls Tryz.prog 179 #[.int .i64 n, .slice p m c] w fun e w' => e = .returned (.bool (inside n m)) ∧ w = w' := by
 unfold inside
 by_cases h : 0 ≤ n
 ·have e1 : decide (0 ≤ n) = true := decide_eq_true h
  rw [e1, Bool.true_and]
  go_enter Tryz.func179, Tryz.ntmps179
  go_wp2
  go_ret
  exact ⟨rfl, rfl⟩
 ·have e1 : decide (0 ≤ n) = false := decide_eq_false h
  rw [e1, Bool.false_and]
  go_enter Tryz.func179, Tryz.ntmps179
  go_wp2
  go_ret
  exact ⟨rfl, rfl⟩
set_option maxRecDepth 100000 in
set_option maxHeartbeats 2000000 in
theorem txn_any (v0 v1 v2 sv : Value) (S : List (List UInt8)) (t : TxnM) (w : World) (h0 : Texts w v0 S) (hs : OpsS w sv t.2.2) :
  Calls Tryz.prog 132 #[.agg #[v0, v1, v2], .agg #[.int .i64 t.1, .int .i64 t.2.1, sv]] w fun e w' => e = .returned (.bool (okTxn S.length t)) ∧ Below w.heap.size w w' := by
 obtain ⟨p0, c0, rfl, -⟩ := h0
 obtain ⟨ps, cs, rfl, -⟩ := hs
 obtain ⟨s, f, l⟩ := t
 simp only [okTxn]
 have HW := Lib.hid (within_any s p0 S.length c0)
 generalize l.length = q
 generalize inside s S.length = I at *
 cases I with
 | false =>
  go_enter Tryz.func132, Tryz.ntmps132
  go_wp2_with (first | (go_at_call 179; refine (HW.out _).mono ?_; rintro e w1 ⟨rfl, rfl⟩))
  go_ret
  exact ⟨rfl, by go_grown⟩
 | true =>
  by_cases h1 : 1 ≤ f
  ·have e1 : decide (1 ≤ f) = true := decide_eq_true h1
   by_cases h2 : f ≤ 3
   ·have e2 : decide (f ≤ 3) = true := decide_eq_true h2
    rw [e1, e2]
    go_enter Tryz.func132, Tryz.ntmps132
    go_wp2_with (first | (go_at_call 179; refine (HW.out _).mono ?_; rintro e w1 ⟨rfl, rfl⟩))
    go_ret
    exact ⟨by simp; try omega, by go_grown⟩
   ·have e2 : decide (f ≤ 3) = false := decide_eq_false h2
    rw [e1, e2]
    go_enter Tryz.func132, Tryz.ntmps132
    go_wp2_with (first | (go_at_call 179; refine (HW.out _).mono ?_; rintro e w1 ⟨rfl, rfl⟩))
    go_ret
    exact ⟨rfl, by go_grown⟩
  ·have e1 : decide (1 ≤ f) = false := decide_eq_false h1
   rw [e1]
   go_enter Tryz.func132, Tryz.ntmps132
   go_wp2_with (first | (go_at_call 179; refine (HW.out _).mono ?_; rintro e w1 ⟨rfl, rfl⟩))
   go_ret
   exact ⟨rfl, by go_grown⟩
theorem below_two {w w2 : World} {A B : Obj} (h : Below (w.heap.size + 1 + 1) ((w.alloc A).alloc B) w2) : Below w.heap.size w w2 :=
 below_next (((Below.refl _ _).alloc (Nat.le_refl _) A).alloc (by simp) B) (by simpa using h)
set_option maxRecDepth 100000 in
set_option maxHeartbeats 2000000 in
theorem op_any (v0 v1 v2 : Value) (K : List (List UInt8)) (o : OpM) (w : World) (h1 : Texts w v1 K) :
  Calls Tryz.prog 134 #[.agg #[v0, v1, v2], .agg #[.bool o.1, .int .i64 o.2.1, .int .i64 o.2.2.1, .int .i64 o.2.2.2]] w fun e w' => e = .returned (.bool (okOp K.length o)) ∧ Below w.heap.size w w' := by
 obtain ⟨p1, c1, rfl, -⟩ := h1
 obtain ⟨b, k, kd, n⟩ := o
 simp only [okOp]
 have HW := Lib.hid (within_any k p1 K.length c1)
 have HM := Lib.hid (vmay_any kd n)
 generalize inside k K.length = I at *
 generalize mayV kd n = M at *
 cases I with
 | false =>
  go_enter Tryz.func134, Tryz.ntmps134
  go_wp2_with (first | (go_at_call 179; refine (HW.out _).mono ?_; rintro e w1 ⟨rfl, rfl⟩))
  go_ret
  exact ⟨rfl, by go_grown⟩
 | true =>
  cases M with
  | false =>
   go_enter Tryz.func134, Tryz.ntmps134
   go_wp2_with (first | (go_at_call 179; refine (HW.out _).mono ?_; rintro e w1 ⟨rfl, rfl⟩) | (go_at_call 181; refine (HM.out _).mono ?_; rintro e w2 ⟨rfl, hb2⟩))
   go_ret
   exact ⟨rfl, bel⟩
  | true =>
   have ext : ∀ (w2 : World) (hb2 : Below (w.heap.size + 1 + 1) ((w.alloc (.cells #[v0, .slice p1 K.length c1, v2] 25)).alloc (.cells #[.bool b, .int .i64 k, .int .i64 kd, .int .i64 n] 51)) w2), w2.cell? ⟨w.heap.size + 1, 0, none⟩ = some (.bool b) ∧ w2.cell? ⟨w.heap.size + 1, 2, none⟩ = some (.int .i64 kd) := fun w2 hb2 => by
    have e0 := hb2.cell (p := ⟨w.heap.size + 1, 0, none⟩) (by show w.heap.size + 1 < w.heap.size + 1 + 1; omega)
    have e2 := hb2.cell (p := ⟨w.heap.size + 1, 2, none⟩) (by show w.heap.size + 1 < w.heap.size + 1 + 1; omega)
    rw [e0, e2]
    have hr := heap_alloc_new (w.alloc (.cells #[v0, .slice p1 K.length c1, v2] 25)) (.cells #[.bool b, .int .i64 k, .int .i64 kd, .int .i64 n] 51)
    rw [show (w.alloc (.cells #[v0, .slice p1 K.length c1, v2] 25)).heap.size = w.heap.size + 1 by simp] at hr
    exact ⟨by rw [cell_of_row _ _ 0 _ _ (0, 0) hr]; rfl, by rw [cell_of_row _ _ 2 _ _ (0, 0) hr]; rfl⟩
   cases b with
   | false =>
    go_enter Tryz.func134, Tryz.ntmps134
    go_wp2_with (first | (go_at_call 179; refine (HW.out _).mono ?_; rintro e w1 ⟨rfl, rfl⟩) | (go_at_call 181; refine (HM.out _).mono ?_; rintro e w2 ⟨rfl, hb2⟩; try simp at hb2; obtain ⟨x1, x2⟩ := ext w2 hb2))
    go_ret
    exact ⟨rfl, below_two hb2⟩
   | true =>
    go_enter Tryz.func134, Tryz.ntmps134
    go_wp2_with (first | (go_at_call 179; refine (HW.out _).mono ?_; rintro e w1 ⟨rfl, rfl⟩) | (go_at_call 181; refine (HM.out _).mono ?_; rintro e w2 ⟨rfl, hb2⟩; try simp at hb2; obtain ⟨x1, x2⟩ := ext w2 hb2))
    go_ret
    exact ⟨by simp, below_two hb2⟩
end
section
open Go.RowKit Go.Lib
def Modst (h : HistM) : Prop := h.1.length ≤ 1000 ∧ h.2.1.length ≤ 1000 ∧ h.2.2.length ≤ 1000 ∧ (∀ x ∈ h.1, x.length ≤ 1000000) ∧ (∀ x ∈ h.2.1, x.length ≤ 1000000) ∧ ∀ t ∈ h.2.2, t.2.2.length ≤ 1000
def Three (w : World) (B : Nat) (v0 v1 v2 : Value) : Prop := w.cell? ⟨B, 0, none⟩ = some v0 ∧ w.cell? ⟨B, 1, none⟩ = some v1 ∧ w.cell? ⟨B, 2, none⟩ = some v2
theorem Three.below {w w' : World} {B : Nat} {v0 v1 v2 : Value} (h : Three w B v0 v1 v2) (hb : Below w.heap.size w w') : Three w' B v0 v1 v2 := ⟨cell_later hb h.1, cell_later hb h.2.1, cell_later hb h.2.2⟩
theorem three_new (w : World) (v0 v1 v2 : Value) (t : TypeId) : Three (w.alloc (.cells #[v0, v1, v2] t)) w.heap.size v0 v1 v2 := by
 have hr := heap_alloc_new w (.cells #[v0, v1, v2] t)
 exact ⟨by rw [cell_of_row _ _ 0 _ _ (0, 0) hr]; rfl, by rw [cell_of_row _ _ 1 _ _ (0, 0) hr]; rfl, by rw [cell_of_row _ _ 2 _ _ (0, 0) hr]; rfl⟩
theorem below_box {w w2 : World} {A : Obj} (h : Below (w.heap.size + 1) (w.alloc A) w2) : Below w.heap.size w w2 :=
 below_next ((Below.refl _ _).alloc (Nat.le_refl _) A) (by simpa using h)
set_option maxRecDepth 100000 in
set_option maxHeartbeats 2000000 in
theorem heads_any (v0 v1 v2 : Value) (h : HistM) (w : World) (h0 : Texts w v0 h.1) (h1 : Texts w v1 h.2.1) (h2 : TxnsS w v2 h.2.2) (hm : Modst h) (hT : Lib.Utf8Tabs 1 2 w) :
  Calls Tryz.prog 129 #[.agg #[v0, v1, v2]] w fun e w' => e = .returned (.bool (okHeads h)) ∧ Below w.heap.size w w' := by
 obtain ⟨m1, m2, -, m3, m4, -⟩ := hm
 have H1 := Lib.hid (fun w' (hw : Texts w' v0 h.1) hT' => tis_any w' v0 h.1 hw (by omega) m3 hT')
 have H2 := Lib.hid (fun w' (hw : Texts w' v1 h.2.1) hT' => tis_any w' v1 h.2.1 hw (by omega) m4 hT')
 have HT := Lib.hid hT
 have T0 := Lib.hid h0
 have T1 := Lib.hid h1
 obtain ⟨p0, c0, e0, -⟩ := h0
 obtain ⟨p1, c1, e1, -⟩ := h1
 obtain ⟨p2, c2, e2, -⟩ := h2
 unfold okHeads
 generalize h.1.length = n0 at *
 generalize h.2.1.length = n1 at *
 generalize h.2.2.length = n2 at *
 generalize isT h.1 = I at *
 generalize isT h.2.1 = J at *
 have E0 := Lib.hid e0
 have E1 := Lib.hid e1
 have E2 := Lib.hid e2
 clear e0 e1 e2
 have hal := (Below.refl w.heap.size w).alloc (Nat.le_refl _) (.cells #[v0, v1, v2] 25)
 have h3 := three_new w v0 v1 v2 25
 have HA := Lib.hid hal
 have H3 := Lib.hid h3
 clear m3 m4 hT hal h3
 cases I with
 | false =>
  go_enter Tryz.func129, Tryz.ntmps129
  go_wp2_with fail
  refine (H1.out _ (T0.out.below HA.out) (Utf8Tabs_below HT.out HA.out)).mono ?_
  rintro e w1 ⟨rfl, hb1⟩
  go_wp2_with fail
  go_ret
  exact ⟨rfl, below_next HA.out hb1⟩
 | true =>
  cases J with
  | false =>
   go_enter Tryz.func129, Tryz.ntmps129
   go_wp2_with fail
   refine (H1.out _ (T0.out.below HA.out) (Utf8Tabs_below HT.out HA.out)).mono ?_
   rintro e w1 ⟨rfl, hb1⟩
   obtain ⟨q0, q1, q2⟩ := H3.out.below hb1
   have hbw := below_next HA.out hb1
   clear hb1
   go_wp2_with fail
   refine (H2.out _ (T1.out.below hbw) (Utf8Tabs_below HT.out hbw)).mono ?_
   rintro e w2 ⟨rfl, hb2⟩
   go_wp2_with fail
   go_ret
   exact ⟨rfl, below_next hbw hb2⟩
  | true =>
   by_cases c1 : n0 ≤ 20
   ·by_cases c2 : n1 ≤ 40
    ·have d1 : decide (n0 ≤ 20) = true := decide_eq_true c1
     have i1 : decide ((n0 : Int) ≤ 20) = true := decide_eq_true (by omega)
     have d2 : decide (n1 ≤ 40) = true := decide_eq_true c2
     have i2 : decide ((n1 : Int) ≤ 40) = true := decide_eq_true (by omega)
     rw [d1, d2]
     go_enter Tryz.func129, Tryz.ntmps129
     go_wp2_with fail
     refine (H1.out _ (T0.out.below HA.out) (Utf8Tabs_below HT.out HA.out)).mono ?_
     rintro e w1 ⟨rfl, hb1⟩
     obtain ⟨q0, q1, q2⟩ := H3.out.below hb1
     have hbw := below_next HA.out hb1
     have H4 := Lib.hid (H3.out.below hb1)
     clear hb1
     go_wp2_with fail
     refine (H2.out _ (T1.out.below hbw) (Utf8Tabs_below HT.out hbw)).mono ?_
     rintro e w2 ⟨rfl, hb2⟩
     obtain ⟨r0, r1, r2⟩ := H4.out.below hb2
     have e0 := E0.out
     have e1 := E1.out
     have e2 := E2.out
     subst e0 e1 e2
     have hbw2 := below_next hbw hb2
     clear hb2 q0 q1 q2 hbw
     go_wp2_with fail
     go_ret
     exact ⟨by simp; try omega, hbw2⟩
    ·have d1 : decide (n0 ≤ 20) = true := decide_eq_true c1
     have i1 : decide ((n0 : Int) ≤ 20) = true := decide_eq_true (by omega)
     have d2 : decide (n1 ≤ 40) = false := decide_eq_false c2
     have i2 : decide ((n1 : Int) ≤ 40) = false := decide_eq_false (by omega)
     rw [d1, d2]
     go_enter Tryz.func129, Tryz.ntmps129
     go_wp2_with fail
     refine (H1.out _ (T0.out.below HA.out) (Utf8Tabs_below HT.out HA.out)).mono ?_
     rintro e w1 ⟨rfl, hb1⟩
     obtain ⟨q0, q1, q2⟩ := H3.out.below hb1
     have hbw := below_next HA.out hb1
     have H4 := Lib.hid (H3.out.below hb1)
     clear hb1
     go_wp2_with fail
     refine (H2.out _ (T1.out.below hbw) (Utf8Tabs_below HT.out hbw)).mono ?_
     rintro e w2 ⟨rfl, hb2⟩
     obtain ⟨r0, r1, r2⟩ := H4.out.below hb2
     have e0 := E0.out
     have e1 := E1.out
     have e2 := E2.out
     subst e0 e1 e2
     have hbw2 := below_next hbw hb2
     clear hb2 q0 q1 q2 hbw
     go_wp2_with fail
     go_ret
     exact ⟨rfl, hbw2⟩
   ·have d1 : decide (n0 ≤ 20) = false := decide_eq_false c1
    have i1 : decide ((n0 : Int) ≤ 20) = false := decide_eq_false (by omega)
    rw [d1]
    go_enter Tryz.func129, Tryz.ntmps129
    go_wp2_with fail
    refine (H1.out _ (T0.out.below HA.out) (Utf8Tabs_below HT.out HA.out)).mono ?_
    rintro e w1 ⟨rfl, hb1⟩
    obtain ⟨q0, q1, q2⟩ := H3.out.below hb1
    have hbw := below_next HA.out hb1
    have H4 := Lib.hid (H3.out.below hb1)
    clear hb1
    go_wp2_with fail
    refine (H2.out _ (T1.out.below hbw) (Utf8Tabs_below HT.out hbw)).mono ?_
    rintro e w2 ⟨rfl, hb2⟩
    obtain ⟨r0, r1, r2⟩ := H4.out.below hb2
    have e0 := E0.out
    have e1 := E1.out
    have e2 := E2.out
    subst e0 e1 e2
    have hbw2 := below_next hbw hb2
    clear hb2 q0 q1 q2 hbw
    go_wp2_with fail
    go_ret
    exact ⟨rfl, hbw2⟩
set_option maxRecDepth 100000 in
set_option maxHeartbeats 1000000 in
theorem may1_any (v0 v1 v2 sv : Value) (S : List (List UInt8)) (t : TxnM) (B : Nat) (w : World) (hB : Three w B v0 v1 v2) (h0 : Texts w v0 S) (hs : OpsS w sv t.2.2) :
  Calls Tryz.prog 131 #[.agg #[.int .i64 t.1, .int .i64 t.2.1, sv], .pointer (some ⟨B, 0, none⟩)] w fun e w' => e = .returned (.bool (!okTxn S.length t)) ∧ Below w.heap.size w w' := by
 have H1 := Lib.hid (fun w' (a : Texts w' v0 S) (b : OpsS w' sv t.2.2) => txn_any v0 v1 v2 sv S t w' a b)
 have hal := (Below.refl w.heap.size w).alloc (Nat.le_refl _) (.cells #[.int .i64 t.1, .int .i64 t.2.1, sv] 47)
 have HA := Lib.hid hal
 have T0 := Lib.hid h0
 have TS := Lib.hid hs
 obtain ⟨q0, q1, q2⟩ := hB.below hal
 obtain ⟨a, b, l⟩ := t
 simp only at H1 TS HA ⊢
 clear h0 hs hB hal
 go_enter Tryz.func131, Tryz.ntmps131
 go_wp2_with fail
 refine (H1.out _ (T0.out.below HA.out) (TS.out.below HA.out)).mono ?_
 rintro e w1 ⟨rfl, hb1⟩
 go_wp2_with fail
 go_ret
 exact ⟨rfl, below_next HA.out hb1⟩
set_option maxRecDepth 100000 in
set_option maxHeartbeats 2000000 in
theorem indexfunc_any (v0 v1 v2 v : Value) (S : List (List UInt8)) (L : List TxnM) (B : Nat) (w : World) (hB : Three w B v0 v1 v2) (h0 : Texts w v0 S) (hv : TxnsS w v L) (hL : L.length ≤ 1000) :
  Calls Tryz.prog 178 #[v, .func (.func 131) #[] #[.pointer (some ⟨B, 0, none⟩)]] w fun e w' => ∃ i : Int, e = .returned (.int .i64 i) ∧ decide (0 ≤ i) = !(L.all (okTxn S.length)) ∧ Below w.heap.size w w' := by
 obtain ⟨p, c, rfl, hp⟩ := hv
 have HX := Lib.hid hp
 have H3 := Lib.hid hB
 have T0 := Lib.hid h0
 have en := enters_of Tryz.func131 (by kernel_rfl) rfl
 have HYes : RowKit.Hid (∀ k : Nat, k < L.length → okTxn S.length (L.getD k noTxn) = false → decide ((0 : Int) ≤ (k : Int)) = !(L.all (okTxn S.length))) := Lib.hid (fun k hk hf => by
  have : L.all (okTxn S.length) = false := by
   rw [List.all_eq_false]
   refine ⟨L.getD k noTxn, ?_, by rw [hf]; exact Bool.false_ne_true⟩
   have : L.getD k noTxn = L[k] := by simp [hk]
   rw [this]
   exact List.getElem_mem hk
  rw [this]
  simp)
 have HNo : RowKit.Hid ((∀ k : Nat, k < L.length → okTxn S.length (L.getD k noTxn) = true) → decide ((0 : Int) ≤ -1) = !(L.all (okTxn S.length))) := Lib.hid (fun h => by
  have : L.all (okTxn S.length) = true := by
   rw [List.all_eq_true]
   intro x hx
   obtain ⟨k, hk, e⟩ := List.getElem_of_mem hx
   have := h k hk
   simpa [hk, e] using this
  rw [this]
  rfl)
 generalize (!(L.all (okTxn S.length))) = R at *
 clear hp hB h0
 go_enter Tryz.func178, Tryz.ntmps178
 go_wp2_with fail
 go_loopw [8] (fun i wr => ∃ k : Nat, k ≤ L.length ∧ i = .int .i64 k ∧ (∀ j, j < k → okTxn S.length (L.getD j noTxn) = true) ∧ Below w.heap.size w wr) (fun i _ => L.length - (RowKit.intOf i).toNat)
 case atStart => exact ⟨0, Nat.zero_le _, rfl, fun j hj => absurd hj (Nat.not_lt_zero j), Below.refl _ _⟩
 case round =>
  obtain ⟨k, hk, rfl, hn, hbw⟩ := hrel
  have HN := Lib.hid hn
  clear hn
  by_cases hk1 : k < L.length
  ·obtain ⟨g, sv, rfl, a1, a2, a3, a4⟩ := HX.out k hk1
   have a1' := cell_later hbw a1
   have a2' := cell_later hbw a2
   have a3' := cell_later hbw a3
   have HM := Lib.hid (may1_any v0 v1 v2 sv S (L.getD k noTxn) B wr (H3.out.below hbw) (T0.out.below hbw) (a4.below hbw))
   have HY := Lib.hid (HYes.out k hk1)
   have HK : RowKit.Hid (okTxn S.length (L.getD k noTxn) = true → ∀ j, j < k + 1 → okTxn S.length (L.getD j noTxn) = true) := Lib.hid (fun h j hj => by
    by_cases hjk : j < k
    ·exact HN.out j hjk
    ·obtain rfl : j = k := by omega
     exact h)
   obtain ⟨b, hb⟩ : ∃ b, okTxn S.length (L.getD k noTxn) = b := ⟨_, rfl⟩
   rw [hb] at HM HY HK
   obtain ⟨t, ht⟩ : ∃ t, L.getD k noTxn = t := ⟨_, rfl⟩
   rw [ht] at HM a1' a2'
   obtain ⟨t1, t2, t3⟩ := t
   simp only at HM a1' a2'
   clear a1 a2 a3 a4 hb ht
   cases b with
   | false =>
    go_wp2_with (first | (go_at_call 131; refine HM.out.mono ?_; rintro e w1 ⟨rfl, hb1⟩))
    go_ret
    exact ⟨_, rfl, HY.out trivial, below_next hbw hb1⟩
   | true =>
    go_wp2_with (first | (go_at_call 131; refine HM.out.mono ?_; rintro e w1 ⟨rfl, hb1⟩))
    go_roundw
    case rel => exact ⟨k + 1, by omega, by go_num, HK.out trivial, below_next hbw hb1⟩
    case measure => simp [RowKit.intOf]; omega
  ·have hke : k = L.length := by omega
   subst hke
   have H1 := Lib.hid (HNo.out HN.out)
   go_wp2_with fail
   go_ret
   exact ⟨_, rfl, H1.out, hbw⟩
set_option maxRecDepth 100000 in
set_option maxHeartbeats 1000000 in
theorem containsfunc_any (v0 v1 v2 v : Value) (S : List (List UInt8)) (L : List TxnM) (B : Nat) (w : World) (hB : Three w B v0 v1 v2) (h0 : Texts w v0 S) (hv : TxnsS w v L) (hL : L.length ≤ 1000) :
  Calls Tryz.prog 130 #[v, .func (.func 131) #[] #[.pointer (some ⟨B, 0, none⟩)]] w fun e w' => e = .returned (.bool (!(L.all (okTxn S.length)))) ∧ Below w.heap.size w w' := by
 have H1 := Lib.hid (indexfunc_any v0 v1 v2 v S L B w hB h0 hv hL)
 generalize (!(L.all (okTxn S.length))) = R at *
 clear hB h0 hv hL
 go_enter Tryz.func130, Tryz.ntmps130
 go_wp2_with fail
 refine H1.out.mono ?_
 rintro e w1 ⟨i, rfl, hi, hb1⟩
 have HI := Lib.hid hi
 clear hi
 go_wp2_with fail
 go_ret
 refine ⟨?_, hb1⟩
 rw [← HI.out]
 rfl
end
end Go.Proofs.YtmgchjddpmmglaaGreatDoor
