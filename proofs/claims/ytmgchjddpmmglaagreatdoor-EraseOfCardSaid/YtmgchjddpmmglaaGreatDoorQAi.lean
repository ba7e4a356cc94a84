/-
  The iterator of layer 11 (hist): all operations of a history, with their places: what it hands on to any loop's body that keeps what lay. No conditions.
  The walk of layer 11 (hist), the program: whether each session has a transaction, and each key an operation. No conditions.
  The walk of layer 11 (hist), the program: whether a history may be. No conditions but that unicode/utf8's two tables are as their initialisers lay them.
  The walks of layer 11 (hist), the program: which transactions are so: a session's, those that may have committed. No conditions but that unicode/utf8's two tables are as their initialisers lay them.
-/
import Derived.Test.YtmgchjddpmmglaaGreatDoorQAh
import Derived.RangeFuncNested
import Derived.RangeFuncBound
import Derived.RangeFuncCalls
import Derived.RangeFuncLeaves
import Derived.Shelf.Abstract
import Derived.Shelf.RegionOpen
import Derived.OwnWalkIn
import Derived.TacticsInMore
import Derived.LoopNIn
import Derived.LoopIn
import Derived.Maps.OwnIn
import Derived.Maps.OwnSet
import Derived.Maps.Views
import Derived.RangeFuncBox
import Derived.Maps.AppendAt
import Derived.WalkArith
import Derived.Outline
namespace Go.Proofs.YtmgchjddpmmglaaGreatDoor
section
open Go.RowKit Go.Shelf Go.Lib
abbrev Item := (Nat × Nat) × OpM
def encI (x : Item) : Array Value := #[.agg #[.int .i64 (x.1.1 : Nat), .int .i64 (x.1.2 : Nat)], .agg #[.bool x.2.1, .int .i64 x.2.2.1, .int .i64 x.2.2.2.1, .int .i64 x.2.2.2.2]]
def itT (i : Nat) (l : List OpM) (k : Nat) : List Item := (List.range k).map fun j => ((i, j), l.getD j noOp)
def itH (L : List TxnM) (i : Nat) : List Item := (List.range i).flatMap fun a => itT a (L.getD a noTxn).2.2 (L.getD a noTxn).2.2.length
theorem itT_succ (i : Nat) (l : List OpM) (k : Nat) : itT i l (k + 1) = itT i l k ++ [((i, k), l.getD k noOp)] := by simp [itT, List.range_succ]
theorem itH_succ (L : List TxnM) (i : Nat) : itH L (i + 1) = itH L i ++ itT i (L.getD i noTxn).2.2 (L.getD i noTxn).2.2.length := by simp [itH, List.range_succ]
theorem itT_prefix (i : Nat) (l : List OpM) (k m : Nat) (h : k ≤ m) : itT i l k <+: itT i l m := by
 induction m with
 | zero =>
  obtain rfl : k = 0 := by omega
  exact List.prefix_rfl
 | succ m ih =>
  by_cases hk : k ≤ m
  ·rw [itT_succ]
   exact (ih hk).trans (List.prefix_append _ _)
  ·obtain rfl : k = m + 1 := by omega
   exact List.prefix_rfl
theorem itH_prefix (L : List TxnM) (i m : Nat) (h : i ≤ m) : itH L i <+: itH L m := by
 induction m with
 | zero =>
  obtain rfl : i = 0 := by omega
  exact List.prefix_rfl
 | succ m ih =>
  by_cases hk : i ≤ m
  ·rw [itH_succ]
   exact (ih hk).trans (List.prefix_append _ _)
  ·obtain rfl : i = m + 1 := by omega
   exact List.prefix_rfl
theorem it_prefix (L : List TxnM) (i k : Nat) (hi : i < L.length) (hk : k ≤ (L.getD i noTxn).2.2.length) : itH L i ++ itT i (L.getD i noTxn).2.2 k <+: itH L L.length := by
 refine List.IsPrefix.trans ?_ (itH_prefix L (i + 1) L.length hi)
 rw [itH_succ]
 exact List.prefix_append_right_inj _ |>.2 (itT_prefix i _ k _ hk)
theorem it_lt (L : List TxnM) (i k : Nat) (hi : i < L.length) (hk : k < (L.getD i noTxn).2.2.length) : (itH L i ++ itT i (L.getD i noTxn).2.2 k).length < (itH L L.length).length := by
 have h := (it_prefix L i (k + 1) hi hk).length_le
 rw [itT_succ, ← List.append_assoc, List.length_append] at h
 simp only [List.length_cons, List.length_nil] at h
 omega
attribute [local go_sem] Oper.semAt_some
set_option maxHeartbeats 1000000 in
theorem ops_in (F : Fence) (n : Nat) (hF : F.fn 133) (hro : F.round = none) (v0 v1 v2 : Value) (w : World) :
  CallsIn F n Tryz.prog 133 #[.agg #[v0, v1, v2]] w fun e w' => e = .returned (.func (.func 180) #[] #[.pointer (some ⟨w.heap.size, 0, none⟩)]) ∧ w' = w.alloc (.cells #[v0, v1, v2] 25) := by
 refine callsIn_of_wp Tryz.func133 rfl hF ?_ hro
 simp only [Tryz.ntmps133, List.size_toArray, List.length_cons, List.length_nil, Nat.reduceAdd, Nat.reduceSub, Array.replicate_succ, Array.replicate_zero, List.push_toArray, List.append_toArray, List.nil_append, List.cons_append]
 gi_wp2
 go_ret
 exact ⟨rfl, rfl⟩
set_option maxRecDepth 100000 in
set_option maxHeartbeats 4000000 in
theorem ops1_in (F : Fence) (n : Nat) (hF : F.fn 180) (hro : F.round = none) (hn : 1 ≤ n) (l B : Nat) (w0 : World) (v0 v1 v2 : Value) (L : List TxnM) (hL : L.length ≤ 1000) (ht : TxnsS w0 v2 L) (hLo : ∀ t ∈ L, t.2.2.length ≤ 1000)
  (J Jx : List Item → World → Prop)
  (hA : ∀ pre W o, J pre W → J pre (W.alloc o))
  (hY : ∀ pre x W, J pre W → pre ++ [x] <+: itH L L.length → YieldAt F (n - 1) Tryz.prog l (encI x) W fun e W' =>
   (e = .returned (.bool true) ∧ J (pre ++ [x]) W' ∧ Below w0.heap.size W W') ∨ (e = .returned (.bool false) ∧ Jx (pre ++ [x]) W'))
  (W : World) (hbW : Below w0.heap.size w0 W) (h3 : Three W B v0 v1 v2) (h0 : J [] W) :
  CallsIn F n Tryz.prog 180 #[.func (.yield l) #[] #[], .pointer (some ⟨B, 0, none⟩)] W fun e W' => (∃ v, e = .returned v) ∧
   ((∃ ys, ys = itH L L.length ∧ J ys W') ∨ (∃ pre, pre <+: itH L L.length ∧ Jx pre W')) := by
 obtain ⟨p, c, rfl, hp⟩ := ht
 have HX := Lib.hid hp
 have HY := Lib.hid hY
 have HA := Lib.hid hA
 have HLo := Lib.hid hLo
 obtain ⟨q0, q1, q2⟩ := h3
 clear hp hY hA hLo
 refine callsIn_of_wp Tryz.func180 rfl hF ?_ hro
 simp only [Tryz.ntmps180, List.size_toArray, List.length_cons, List.length_nil, Nat.reduceAdd, Nat.reduceSub, Array.replicate_succ, Array.replicate_zero, List.push_toArray, List.append_toArray, List.nil_append, List.cons_append]
 gi_wp2
 gi_loopw [10] (fun i wr => ∃ k : Nat, k ≤ L.length ∧ i = .int .i64 k ∧ J (itH L k) wr ∧ Below w0.heap.size w0 wr) (fun i _ => L.length - (RowKit.intOf i).toNat)
 case atStart => exact ⟨0, Nat.zero_le _, rfl, h0, hbW⟩
 case round =>
  obtain ⟨i, hi, rfl, hJs, hbw⟩ := hrel
  by_cases hlt : i < L.length
  ·obtain ⟨g, sv, rfl, a1, a2, a3, ⟨p2, c2, rfl, -, hops⟩⟩ := HX.out i hlt
   have a1' := cell_later hbw a1
   have a2' := cell_later hbw a2
   have a3' := cell_later hbw a3
   have hm : (L.getD i noTxn).2.2.length ≤ 1000 := HLo.out _ (by
    have : L.getD i noTxn = L[i] := by simp [hlt]
    rw [this]
    exact List.getElem_mem hlt)
   have HO := Lib.hid hops
   have HS := Lib.hid (itH_succ L i)
   have HP := Lib.hid (fun k => it_prefix L i k hlt)
   obtain ⟨t, htt⟩ : ∃ t, L.getD i noTxn = t := ⟨_, rfl⟩
   rw [htt] at a1' a2' a3' hm HO HS HP
   obtain ⟨ts, tf, tl⟩ := t
   simp only at a1' a2' a3' hm HO HS HP
   obtain ⟨pre0, hpre0⟩ : ∃ q, itH L i = q := ⟨_, rfl⟩
   rw [hpre0] at hJs HS HP
   clear a1 a2 a3 hops htt hpre0
   gi_wp2
   gi_loopw [18] (fun j ws => ∃ k : Nat, k ≤ tl.length ∧ j = .int .i64 k ∧ J (pre0 ++ itT i tl k) ws ∧ Below w0.heap.size w0 ws) (fun j _ => tl.length - (RowKit.intOf j).toNat)
   case atStart => exact ⟨0, Nat.zero_le _, rfl, by simpa [itT] using HA.out _ _ _ hJs, hbw.alloc hbw.size _⟩
   case round =>
    obtain ⟨k, hk, rfl, hJk, hbk⟩ := hrel
    by_cases hlt2 : k < tl.length
    ·obtain ⟨g2, rfl, b1, b2, b3, b4⟩ := HO.out k hlt2
     have b1' := cell_later hbk b1
     have b2' := cell_later hbk b2
     have b3' := cell_later hbk b3
     have b4' := cell_later hbk b4
     have HS2 := Lib.hid (itT_succ i tl k)
     have hpf := HP.out (k + 1) hlt2
     obtain ⟨o, ho⟩ : ∃ o, tl.getD k noOp = o := ⟨_, rfl⟩
     rw [ho] at b1' b2' b3' b4' HS2
     rw [HS2.out, ← List.append_assoc] at hpf
     obtain ⟨ow, ok, od, on⟩ := o
     simp only at b1' b2' b3' b4' HS2 hpf
     have HPf := Lib.hid hpf
     clear b1 b2 b3 b4 ho
     have hbk2 := hbk.alloc hbk.size (.cells #[.bool ow, .int .i64 ok, .int .i64 od, .int .i64 on] 51)
     obtain ⟨fn, tmps, assign, body, hy, hR⟩ := HY.out _ ((i, k), (ow, ok, od, on)) (wr.alloc (.cells #[.bool ow, .int .i64 ok, .int .i64 od, .int .i64 on] 51)) (HA.out _ _ _ hJk) hpf
     simp only [encI] at hy
     clear hpf
     gi_wp2
     refine hR.mono ?_
     rintro e W3 (⟨rfl, hJ3, hk3⟩ | ⟨rfl, hJx3⟩)
     ·gi_wp2
      go_roundw
      case rel => exact ⟨k + 1, by omega, by go_num, by rw [HS2.out, ← List.append_assoc]; exact hJ3, hbk2.trans hk3⟩
      case measure => simp [RowKit.intOf]; omega
     ·gi_wp2
      refine bodyPost_ret (results_none rfl _ _ _) rfl ?_
      exact ⟨⟨_, rfl⟩, .inr ⟨_, HPf.out, hJx3⟩⟩
    ·obtain rfl : k = tl.length := by omega
     gi_wp2
     go_roundw
     case rel => exact ⟨i + 1, by omega, by go_num, by rw [HS.out]; exact hJk, hbk⟩
     case measure => simp [RowKit.intOf]; omega
  ·obtain rfl : i = L.length := by omega
   gi_wp2
   go_end0
   exact ⟨⟨_, rfl⟩, .inl ⟨_, rfl, hJs⟩⟩
theorem prefix_lt {α : Type} {a : List α} {x : α} {b : List α} (h : a ++ [x] <+: b) : a.length < b.length := by
 have := h.length_le
 rw [List.length_append] at this
 simp only [List.length_cons, List.length_nil] at this
 omega
theorem prefix_mem {α : Type} {a : List α} {x : α} {b : List α} (h : a ++ [x] <+: b) : x ∈ b := h.subset (by simp)
theorem ops_stops (p : Item → Prop) (F : Fence) (n : Nat) (hF : F.fn 180) (hro : F.round = none) (hn : 1 ≤ n) (B : Nat) (w0 : World) (v0 v1 v2 : Value) (L : List TxnM) (hL : L.length ≤ 1000) (ht : TxnsS w0 v2 L) (hLo : ∀ t ∈ L, t.2.2.length ≤ 1000)
  (hp : ∀ x ∈ itH L L.length, p x) (w : World) (hbw : Below w0.heap.size w0 w) (h3 : Three w B v0 v1 v2) :
  SeqStopsK F n Tryz.prog 180 #[.pointer (some ⟨B, 0, none⟩)] (fun x : { x : Item // p x } => encI x.1) (Below w0.heap.size) (fun ys => ys.map (·.1) = itH L L.length) (fun pre => pre.map (·.1) <+: itH L L.length) (itH L L.length).length w := fun l J Jx W hW hJ _ hY h0 => by
 refine (ops1_in F n hF hro hn l B w0 v0 v1 v2 L hL ht hLo (fun pre W => ∃ q : List { x : Item // p x }, q.map (·.1) = pre ∧ J q W) (fun pre W => ∃ q : List { x : Item // p x }, q.map (·.1) = pre ∧ Jx q W)
  (fun pre W o ⟨q, e, h⟩ => ⟨q, e, hJ q W _ none h (World.grownBy_alloc W o none) (fun r e => by cases e)⟩) ?_ W (below_next hbw hW) (h3.below hW) ⟨[], rfl, h0⟩).mono ?_
 ·rintro pre x W' ⟨q, rfl, hj⟩ hpf
  obtain ⟨fn, tmps, assign, body, hy, hR⟩ := hY q ⟨x, hp x (prefix_mem hpf)⟩ W' hj (by have := prefix_lt hpf; simpa using this)
  refine ⟨fn, tmps, assign, body, hy, hR.mono ?_⟩
  rintro e W3 (⟨he, h1, h2⟩ | ⟨he, h1⟩)
  ·exact .inl ⟨he, ⟨_, by simp, h1⟩, h2⟩
  ·exact .inr ⟨he, ⟨_, by simp, h1⟩⟩
 ·rintro e W' ⟨he, ⟨ys, rfl, q, hq, hj⟩ | ⟨pre, hpf, q, rfl, hj⟩⟩
  ·exact ⟨he, .inl ⟨q, hq, hj⟩⟩
  ·exact ⟨he, .inr ⟨q, hpf, hj⟩⟩
end
section
open Go.RowKit Go.Shelf Go.Lib
attribute [local go_sem] Oper.semAt_some
def KeysAre (D : DataW Unit) (l : List Int) : Prop := Maps.Tidy D ∧ Maps.size D = (unlike l).length ∧ ∀ x : Int, (Lit.int .i64 x).wf = true → Maps.has D (.int .i64 x) = l.contains x
theorem unlike_snoc (l : List Int) (x : Int) : (unlike (l ++ [x])).length = if l.contains x then (unlike l).length else (unlike l).length + 1 := by
 by_cases h : l.contains x = true
 ·rw [if_pos h]
  have hx : x ∈ l := by simpa using h
  apply Nat.le_antisymm
  ·refine nodup_sub _ _ (unlike_nodup _) fun y hy => ?_
   rw [unlike_mem] at hy ⊢
   rcases List.mem_append.1 hy with h | h
   ·exact h
   ·obtain rfl : y = x := by simpa using h
    exact hx
  ·refine nodup_sub _ _ (unlike_nodup _) fun y hy => ?_
   rw [unlike_mem] at hy ⊢
   exact List.mem_append_left _ hy
 ·rw [if_neg h]
  have hx : x ∉ l := by simpa using h
  have hn : (x :: unlike l).Nodup := List.nodup_cons.2 ⟨fun h => hx ((unlike_mem _ _).1 h), unlike_nodup l⟩
  apply Nat.le_antisymm
  ·have := nodup_sub _ (x :: unlike l) (unlike_nodup (l ++ [x])) fun y hy => by
    rw [unlike_mem] at hy
    rcases List.mem_append.1 hy with h | h
    ·exact List.mem_cons_of_mem _ ((unlike_mem _ _).2 h)
    ·obtain rfl : y = x := by simpa using h
     exact List.mem_cons_self ..
   simpa using this
  ·have := nodup_sub (x :: unlike l) (unlike (l ++ [x])) hn fun y hy => by
    rw [unlike_mem]
    rcases List.mem_cons.1 hy with h | h
    ·subst h; simp
    ·exact List.mem_append_left _ ((unlike_mem _ _).1 h)
   simpa using this
theorem keys_nil : KeysAre (.map []) [] := ⟨⟨[], rfl, by simp⟩, rfl, fun _ _ => rfl⟩
theorem keys_put {D : DataW Unit} {l : List Int} (h : KeysAre D l) (x : Int) (hx : (Lit.int .i64 x).wf = true) (d : DataW Unit) : KeysAre (D.put (.int .i64 x) d) (l ++ [x]) := by
 obtain ⟨h1, h2, h3⟩ := h
 have hk : WideAt.IsKeyLit (.int .i64 x) := by trivial
 refine ⟨h1.put hk d, ?_, ?_⟩
 ·rw [Maps.size_put h1, h3 x hx, h2, unlike_snoc]
 ·intro y hy
  by_cases e : y = x
  ·subst e
   rw [Maps.has_put_same h1.isMap hk]
   simp
  ·rw [Maps.has_put_other (by intro e2; cases e2; exact e rfl), h3 y hy]
   simp [e]
def sessK (L : List TxnM) (k : Nat) : List Int := (L.take k).map (·.1)
theorem sessK_next (L : List TxnM) (k : Nat) (hk : k < L.length) : sessK L (k + 1) = sessK L k ++ [(L.getD k noTxn).1] := by
 unfold sessK
 rw [List.take_add_one, List.map_append]
 congr 1
 simp [hk]
theorem items_ops (L : List TxnM) : (itH L L.length).map (·.2) = L.flatMap (·.2.2) := by
 have h1 : ∀ (i : Nat) (l : List OpM), (itT i l l.length).map (·.2) = l := by
  intro i l
  apply List.ext_getElem
  ·simp [itT]
  ·intro n h1 h2
   simp [itT, h2]
 have h2 : ∀ n, n ≤ L.length → (itH L n).map (·.2) = (L.take n).flatMap (·.2.2) := by
  intro n
  induction n with
  | zero => intro _; simp [itH]
  | succ n ih =>
   intro hn
   rw [itH_succ, List.map_append, ih (by omega), h1, List.take_add_one, List.flatMap_append]
   congr 1
   simp [show n < L.length by omega]
 have := h2 L.length (Nat.le_refl _)
 rwa [List.take_length] at this
theorem itH_len (L : List TxnM) (hL : ∀ t ∈ L, t.2.2.length ≤ 1000) : ∀ n, n ≤ L.length → (itH L n).length ≤ n * 1000
 | 0, _ => by simp [itH]
 | n + 1, h => by
  have ih := itH_len L hL n (by omega)
  have hm := hL (L.getD n noTxn) (by
   have : L.getD n noTxn = L[n] := by simp [show n < L.length by omega]
   rw [this]
   exact List.getElem_mem (by omega))
  rw [itH_succ, List.length_append]
  have : (itT n (L.getD n noTxn).2.2 (L.getD n noTxn).2.2.length).length = (L.getD n noTxn).2.2.length := by simp [itT]
  omega
theorem zero_i64 (w : World) : (zeroValue 3).run Tryz.prog w = .ok (.int .i64 0) w := by kernel_rfl
theorem three_grown {w w' : World} {B : Nat} {row : Option Nat} {v0 v1 v2 : Value} (h : Three w B v0 v1 v2) (hg : w.grownBy w' row) (hne : some B ≠ row) : Three w' B v0 v1 v2 :=
 ⟨hg.cell h.1 hne, hg.cell h.2.1 hne, hg.cell h.2.2 hne⟩
theorem three_alloc {w : World} {B : Nat} {v0 v1 v2 : Value} (h : Three w B v0 v1 v2) (o : Obj) : Three (w.alloc o) B v0 v1 v2 := three_grown h (World.grownBy_alloc w o none) (by simp)
set_option maxRecDepth 100000 in
set_option maxHeartbeats 4000000 in
theorem used_in (F : Fence) (n : Nat) (hF : F.fn 135) (hF2 : F.fn 133) (hF3 : F.fn 180) (hro : F.round = none) (hn : 3 ≤ n) (v0 v1 v2 : Value) (h : HistM) (w : World) (h0 : Texts w v0 h.1) (h1 : Texts w v1 h.2.1) (h2 : TxnsS w v2 h.2.2) (hm : Modst h)
  (hs : ∀ t ∈ h.2.2, 0 ≤ t.1 ∧ t.1 < h.1.length) (hk : ∀ o ∈ allOps h, 0 ≤ o.2.1 ∧ o.2.1 < h.2.1.length) :
  CallsIn F n Tryz.prog 135 #[.agg #[v0, v1, v2]] w fun e w' => e = .returned (.bool (usedH h)) ∧ Below w.heap.size w w' := by
 have h1n : 1 ≤ n := by omega
 obtain ⟨m1, m2, m3, -, -, m4⟩ := hm
 have T0 := Lib.hid h0
 have T1 := Lib.hid h1
 have T2 := Lib.hid h2
 obtain ⟨p2, c2, rfl, hp⟩ := h2
 obtain ⟨p0, c0, rfl, -⟩ := h0
 obtain ⟨p1, c1, rfl, -⟩ := h1
 have HX := Lib.hid hp
 have HM4 := Lib.hid m4
 have HS := Lib.hid hs
 have HK := Lib.hid hk
 clear hp m4 hs hk
 have hmm := @run_makeMap Tryz.prog
 have hm1 := World.ownsMap_made (w.alloc (.cells #[.slice p0 h.1.length c0, .slice p1 h.2.1.length c1, .slice p2 h.2.2.length c2] 25)) Tryz.prog 3 (plainElem (H := Unit) Tryz.prog 3)
 have hm2 := World.ownsMap_made ((w.alloc (.cells #[.slice p0 h.1.length c0, .slice p1 h.2.1.length c1, .slice p2 h.2.2.length c2] 25)).alloc (.map #[] 0)) Tryz.prog 3 (plainElem (H := Unit) Tryz.prog 3)
 refine callsIn_of_wp_marks Tryz.func135 rfl hF ?_ hro
 simp only [Tryz.ntmps135, List.size_toArray, List.length_cons, List.length_nil, Nat.reduceAdd, Nat.reduceSub, Array.replicate_succ, Array.replicate_zero, List.push_toArray, List.append_toArray, List.nil_append, List.cons_append]
 gi_wp2
 have t0 := three_alloc (three_alloc (three_alloc (three_new w (.slice p0 h.1.length c0) (.slice p1 h.2.1.length c1) (.slice p2 h.2.2.length c2) 25) (.map #[] 0)) (.map #[] 0)) (.cells #[.map (some (w.heap.size + 1 + 1))] 90)
 have b0 := Boxed.new (((w.alloc (.cells #[.slice p0 h.1.length c0, .slice p1 h.2.1.length c1, .slice p2 h.2.2.length c2] 25)).alloc (.map #[] 0)).alloc (.map #[] 0)) 90 (.map (some (w.heap.size + 1 + 1)))
 have hB0 : Below w.heap.size w ((((w.alloc (.cells #[.slice p0 h.1.length c0, .slice p1 h.2.1.length c1, .slice p2 h.2.2.length c2] 25)).alloc (.map #[] 0)).alloc (.map #[] 0)).alloc (.cells #[.map (some (w.heap.size + 1 + 1))] 90)) :=
  ((((Below.refl _ w).alloc (Nat.le_refl _) _).alloc (by simp) _).alloc (by simp; omega) _).alloc (by simp; omega) _
 simp only [World.size_alloc] at hm1 hm2 b0
 replace hm1 := (hm1.alloc (.map #[] 0)).alloc (.cells #[.map (some (w.heap.size + 1 + 1))] 90)
 replace hm2 := hm2.alloc (.cells #[.map (some (w.heap.size + 1 + 1))] 90)
 obtain ⟨W0, hW0⟩ : ∃ W0, (((w.alloc (.cells #[.slice p0 h.1.length c0, .slice p1 h.2.1.length c1, .slice p2 h.2.2.length c2] 25)).alloc (.map #[] 0)).alloc (.map #[] 0)).alloc (.cells #[.map (some (w.heap.size + 1 + 1))] 90) = W0 := ⟨_, rfl⟩
 rw [hW0] at t0 b0 hB0 hm1 hm2 ⊢
 clear hW0 hmm
 gi_loopw [14] (fun i wr => ∃ (k : Nat) (D : DataW Unit), k ≤ h.2.2.length ∧ i = .int .i64 k ∧ wr.ownsMap Tryz.prog 3 (plainElem (H := Unit) Tryz.prog 3) (w.heap.size + 1) k D ∧ KeysAre D (sessK h.2.2 k) ∧
   wr.ownsMap Tryz.prog 3 (plainElem (H := Unit) Tryz.prog 3) (w.heap.size + 1 + 1) 0 (.map []) ∧ Boxed wr (w.heap.size + 1 + 1 + 1) 90 (.map (some (w.heap.size + 1 + 1))) ∧ Three wr w.heap.size (.slice p0 h.1.length c0) (.slice p1 h.2.1.length c1) (.slice p2 h.2.2.length c2) ∧ Below w.heap.size w wr)
  (fun i _ => h.2.2.length - (RowKit.intOf i).toNat)
 case atStart => exact ⟨0, _, Nat.zero_le _, rfl, hm1, keys_nil, hm2, b0, t0, hB0⟩
 case round =>
  obtain ⟨k, D, hk, rfl, o1, k1, o2, bx, th, hbw⟩ := hrel
  by_cases hlt : k < h.2.2.length
  ·obtain ⟨g, sv, rfl, a1, a2, a3, ⟨p3, c3, rfl, -⟩⟩ := HX.out k hlt
   have a1' := cell_later hbw a1
   have a2' := cell_later hbw a2
   have a3' := cell_later hbw a3
   have hrange := HS.out (h.2.2.getD k noTxn) (by
    have : h.2.2.getD k noTxn = h.2.2[k] := by simp [hlt]
    rw [this]
    exact List.getElem_mem hlt)
   have HN := Lib.hid (sessK_next h.2.2 k hlt)
   obtain ⟨t, ht⟩ : ∃ t, h.2.2.getD k noTxn = t := ⟨_, rfl⟩
   rw [ht] at a1' a2' a3' hrange HN
   obtain ⟨ts, tf, tl⟩ := t
   simp only at a1' a2' a3' hrange HN
   have hwf : (Lit.int .i64 ts).wf = true := WalkArith.wf_i64 (by omega)
   have hkey := Maps.keyOf_int_mk Tryz.underlying3 hwf
   have HK1 := Lib.hid (fun d => keys_put k1 ts hwf d)
   clear a1 a2 a3 ht k1
   have o1' := o1.alloc (.cells #[.int .i64 ts, .int .i64 tf, .slice p3 tl.length c3] 47)
   gi_wp2_with (first
    | (gi_at_lookup; refine wpListIn_lookup_own_int _ rfl _ _ 90 rfl 3 3 .i64 (Maps.int_keyed Tryz.underlying3) Tryz.underlying90 Tryz.underlying3 (zero_i64 _) (w.heap.size + 1) k _ rfl o1' _ _ rfl hkey ?_; intro c hat hwc)
    | (gi_at_mapUpdate; refine wpListIn_mapUpdate_own _ rfl _ _ _ 90 rfl 3 3 (Maps.int_keyed Tryz.underlying3) Tryz.underlying90 _ (w.heap.size + 1) k _ rfl o1' (by unfold maxLen; omega) _ _ _ rfl rfl hkey _ [] (plainElem_int Tryz.underlying3 (wrap64_wf _)) ?_; intro w1 hown1 hgrow1))
   go_roundw
   case rel =>
    have g2 : ∀ {b : Nat}, b ≠ w.heap.size + 1 → some b ≠ some (w.heap.size + 1) := fun h e => h (Option.some.inj e)
    exact ⟨k + 1, _, by omega, by go_num, hown1, by rw [HN.out]; exact HK1.out _, (o2.alloc _).kept hgrow1 (g2 (by omega)), (bx.alloc _).kept hgrow1 (g2 (by omega)), three_grown (three_alloc th _) hgrow1 (g2 (by omega)),
     (hbw.alloc hbw.size _).grown hgrow1 (by have := hbw.size; simp; omega) (fun j e => by cases e; omega)⟩
   case measure => simp [RowKit.intOf]; omega
  ·have hke : k = h.2.2.length := by omega
   have e1 : sessK h.2.2 k = h.2.2.map (·.1) := by rw [hke, sessK, List.take_length]
   rw [e1] at k1
   have HK1 := Lib.hid k1
   obtain ⟨th0, th1, th2⟩ := id th
   clear e1 k1
   gi_wp2_with (gi_at_call 133; refine (ops_in F (n - 1) hF2 hro _ _ _ _).mono ?_; rintro e w' ⟨rfl, rfl⟩)
   have hp : ∀ x ∈ itH h.2.2 h.2.2.length, (Lit.int .i64 x.2.2.1).wf = true := fun x hx => by
    have h5 : x.2 ∈ allOps h := by
     show x.2 ∈ h.2.2.flatMap (·.2.2)
     rw [← items_ops]
     exact List.mem_map_of_mem hx
    have := HK.out _ h5
    exact WalkArith.wf_i64 (by omega)
   have t1 := three_new wr (.slice p0 h.1.length c0) (.slice p1 h.2.1.length c1) (.slice p2 h.2.2.length c2) 25
   have o1' := o1.alloc (.cells #[.slice p0 h.1.length c0, .slice p1 h.2.1.length c1, .slice p2 h.2.2.length c2] 25)
   have o2' := o2.alloc (.cells #[.slice p0 h.1.length c0, .slice p1 h.2.1.length c1, .slice p2 h.2.2.length c2] 25)
   have bx' := bx.alloc (.cells #[.slice p0 h.1.length c0, .slice p1 h.2.1.length c1, .slice p2 h.2.2.length c2] 25)
   have th' := three_alloc th (.cells #[.slice p0 h.1.length c0, .slice p1 h.2.1.length c1, .slice p2 h.2.2.length c2] 25)
   have hb' := hbw.alloc hbw.size (.cells #[.slice p0 h.1.length c0, .slice p1 h.2.1.length c1, .slice p2 h.2.2.length c2] 25)
   have hsz : w.heap.size + 1 + 1 + 1 < wr.heap.size := bx.lt
   have hsz1 : (wr.alloc (.cells #[.slice p0 h.1.length c0, .slice p1 h.2.1.length c1, .slice p2 h.2.2.length c2] 25)).heap.size = wr.heap.size + 1 := by simp
   obtain ⟨W1, hW1⟩ : ∃ W1, wr.alloc (.cells #[.slice p0 h.1.length c0, .slice p1 h.2.1.length c1, .slice p2 h.2.2.length c2] 25) = W1 := ⟨_, rfl⟩
   rw [hW1] at t1 o1' o2' bx' th' hb' hsz1 ⊢
   clear hW1 o1 o2 bx th th0 th1 th2 hm1 hm2 b0 t0 hB0
   refine wpIn_rangeFunc_ownH hro h1n (gf := 180) (lb := #[.pointer (some ⟨wr.heap.size, 0, none⟩)]) rfl hF3 (enters_of Tryz.func180 (by kernel_rfl) rfl)
    (ops_stops (fun x => (Lit.int .i64 x.2.2.1).wf = true) F (n - 1) hF3 hro (by omega) wr.heap.size w _ _ _ h.2.2 m3 T2.out HM4.out hp W1 hb' t1) belowK_t (belowK_b (by omega)) (Below.refl _ _) (fun _ => rfl)
    (fun pre W => ((∃ D2 : DataW Unit, W.ownsMap Tryz.prog 3 (plainElem (H := Unit) Tryz.prog 3) (w.heap.size + 1 + 1) pre.length D2 ∧ KeysAre D2 (pre.map fun x => x.1.2.2.1)) ∧ W.ownsMap Tryz.prog 3 (plainElem (H := Unit) Tryz.prog 3) (w.heap.size + 1) k D ∧
     Boxed W (w.heap.size + 1 + 1 + 1) 90 (.map (some (w.heap.size + 1 + 1))) ∧ Three W w.heap.size (.slice p0 h.1.length c0) (.slice p1 h.2.1.length c1) (.slice p2 h.2.2.length c2)) ∧ Below w.heap.size w W)
    (fun _ _ _ => False)
    (OwnFrom.and (fun s A B row hs hg hr => by
      obtain ⟨⟨D2, q1, q2⟩, q3, q4, q5⟩ := hs
      have hne : ∀ b, b < W1.heap.size → some b ≠ row := fun b hb e => by have := (hr b e.symm).1; omega
      exact ⟨⟨D2, q1.kept hg (hne _ (by omega)), q2⟩, q3.kept hg (hne _ (by omega)), q4.kept hg (hne _ (by omega)), three_grown q5 hg (hne _ (by omega))⟩) (ownFrom_below (Nat.le_refl _) (by omega)))
    (fun _ _ _ _ _ hs _ _ => hs)
    ⟨⟨⟨_, o2', keys_nil⟩, o1', bx', th'⟩, hb'⟩
    (fun x a' W => ∃ Bx, w.heap.size + 1 + 1 + 1 < Bx ∧ W.heap[Bx]? = some (.cells #[.bool x.1.2.1, .int .i64 x.1.2.2.1, .int .i64 x.1.2.2.2.1, .int .i64 x.1.2.2.2.2] 51 (0, 0)) ∧ a' = { tmps := #[.agg #[.slice p0 h.1.length c0, .slice p1 h.2.1.length c1, .slice p2 h.2.2.length c2], .pointer (some ⟨w.heap.size, 0, none⟩), .bool false, .map (some (w.heap.size + 1)), .pointer (some ⟨w.heap.size + 1 + 1 + 1, 0, none⟩), undef, u6, undef, .pointer (some ⟨Bx, 0, none⟩), .map (some (w.heap.size + 1)), .map (some (w.heap.size + 1 + 1)), .pointer (some ⟨w.heap.size, 2, none⟩), .slice p2 h.2.2.length c2, .int .i64 (h.2.2.length : Nat), .int .i64 (h.2.2.length : Nat), .bool false, u16, u17, u18, u19, u20, u21, u22, u23, .agg #[.slice p0 h.1.length c0, .slice p1 h.2.1.length c1, .slice p2 h.2.2.length c2], .func (.func 180) #[] #[.pointer (some ⟨wr.heap.size, 0, none⟩)], .agg #[.int .i64 (x.1.1.1 : Nat), .int .i64 (x.1.1.2 : Nat)], .agg #[.bool x.1.2.1, .int .i64 x.1.2.2.1, .int .i64 x.1.2.2.2.1, .int .i64 x.1.2.2.2.2], undef, undef, undef, undef, undef, undef, undef, undef, undef, undef, undef, undef, undef, undef, undef, undef, undef, undef, undef], defers := [] })
    (fun x a' _ X Y row hs hg hr => by
     obtain ⟨Bx, r1, r2, r3⟩ := hs
     exact ⟨Bx, r1, (hg.block Bx (Array.getElem?_eq_some_iff.1 r2).1 (fun e => by obtain ⟨-, o, ho, hc⟩ := hr Bx e.symm; rw [r2] at ho; cases ho; cases hc)).trans r2, r3⟩)
    ?assign ?body ?done ?stop
   case assign =>
    rintro l pre x W K ⟨⟨⟨D2, q1, q2⟩, q3, q4, q5⟩, hB⟩ hK
    simp only [encI]
    gi_wp2
    exact hK _ _ ((KeepsOthers.alloc _ _).from _) ((Below.refl _ W).alloc hB.size _) ⟨⟨⟨D2, q1.alloc _, q2⟩, q3.alloc _, q4.alloc _, three_alloc q5 _⟩, hB.alloc hB.size _⟩ ⟨W.heap.size, q4.lt, heap_alloc_new W _, rfl⟩
   case body =>
    rintro l pre x a' W hl - ⟨⟨⟨D2, q1, q2⟩, q3, q4, q5⟩, hB⟩ ⟨Bx, hBx, bX, rfl⟩ hlt2
    have cB := q4.cell
    have cX : W.cell? ⟨Bx, 1, none⟩ = some (.int .i64 x.1.2.2.1) := by rw [cell_of_row W Bx 1 _ _ (0, 0) bX]; rfl
    have hkey := Maps.keyOf_int_mk Tryz.underlying3 x.2
    have hN := itH_len h.2.2 HM4.out h.2.2.length (Nat.le_refl _)
    have hK2 := Lib.hid (fun d => keys_put q2 _ x.2 d)
    clear q2
    gi_wp2_with (first
     | (gi_at_lookup; refine wpListIn_lookup_own_int _ rfl _ _ 90 rfl 3 3 .i64 (Maps.int_keyed Tryz.underlying3) Tryz.underlying90 Tryz.underlying3 (zero_i64 _) (w.heap.size + 1 + 1) pre.length _ rfl q1 _ _ rfl hkey ?_; intro c hat hwc)
     | (gi_at_mapUpdate; refine wpListIn_mapUpdate_own _ rfl _ _ _ 90 rfl 3 3 (Maps.int_keyed Tryz.underlying3) Tryz.underlying90 _ (w.heap.size + 1 + 1) pre.length _ rfl q1 (by unfold maxLen; omega) _ _ _ rfl rfl hkey _ [] (plainElem_int Tryz.underlying3 (wrap64_wf _)) ?_; intro w1 hown1 hgrow1))
    have g2 : ∀ {b : Nat}, b ≠ w.heap.size + 1 + 1 → some b ≠ some (w.heap.size + 1 + 1) := fun h e => h (Option.some.inj e)
    have hgb : ∀ {A : World}, Below w.heap.size A W → Below w.heap.size A w1 := fun hA => hA.grown hgrow1 hB.size (fun j e => by cases e; omega)
    exact ⟨KeepsFrom.of_grownBy hgrow1 (fun j e => by cases e; omega), hgb (Below.refl _ _), ⟨⟨_, by rw [List.length_append]; exact hown1, by rw [List.map_append]; exact hK2.out _⟩, q3.kept hgrow1 (g2 (by omega)), q4.kept hgrow1 (g2 (by omega)), three_grown q5 hgrow1 (g2 (by omega))⟩, hgb hB⟩
   case done =>
    rintro Dd xs W hD hS ⟨⟨⟨D2, q1, q2⟩, q3, q4, q5⟩, hB⟩ hd
    have l1 := q3.len Tryz.underlying90 3
    have l2 := q1.len Tryz.underlying90 3
    have e1 : Maps.size D = (unlike (h.2.2.map (·.1))).length := HK1.out.2.1
    have e2 : Maps.size D2 = (unlike ((allOps h).map (·.2.1))).length := by
     rw [q2.2.1]
     congr 2
     have h5 := congrArg (List.map (fun x : Item => x.2.2.1)) hS
     rw [List.map_map] at h5
     rw [show allOps h = h.2.2.flatMap (·.2.2) from rfl, ← items_ops, List.map_map]
     exact h5
    have u1 := unlike_all h.1.length (h.2.2.map (·.1)) (fun x hx => by
     obtain ⟨t, ht, rfl⟩ := List.mem_map.1 hx
     exact HS.out t ht)
    have u2 := unlike_all h.2.1.length ((allOps h).map (·.2.1)) (fun x hx => by
     obtain ⟨o, ho, rfl⟩ := List.mem_map.1 hx
     exact HK.out o ho)
    rw [← e1] at u1
    rw [← e2] at u2
    obtain ⟨N1, hN1⟩ : ∃ N1, Maps.size D = N1 := ⟨_, rfl⟩
    obtain ⟨N2, hN2⟩ : ∃ N2, Maps.size D2 = N2 := ⟨_, rfl⟩
    rw [hN1] at l1 u1
    rw [hN2] at l2 u2
    have hfin : usedH h = (decide (N1 = h.1.length) && decide (N2 = h.2.1.length)) := by rw [u1, u2]; rfl
    have HU := Lib.hid hfin
    have HD := Lib.hid hd
    have HDB : RowKit.Hid (Below w.heap.size w (W.putObj Dd (.deferred none))) := Lib.hid (hB.trans (belowK_b (w := W1) (by omega) W Dd _ _ hD hd rfl rfl))
    obtain ⟨q50, q51, q52⟩ := q5
    have cB := q4.cell
    clear e1 e2 u1 u2 hN1 hN2 hfin hd hS q1 q2 q3 q4 hB
    by_cases g1 : N1 = h.1.length
    ·have f1 : ((N1 : Int) == (h.1.length : Int)) = true := by rw [g1]; exact beq_self_eq_true _
     have t1' : decide (N1 = h.1.length) = true := by simpa using g1
     rw [t1', Bool.true_and] at HU
     clear g1 t1'
     by_cases g2 : N2 = h.2.1.length
     ·have f2 : ((N2 : Int) == (h.2.1.length : Int)) = true := by rw [g2]; exact beq_self_eq_true _
      have t2' : decide (N2 = h.2.1.length) = true := by simpa using g2
      rw [t2'] at HU
      clear g2 t2'
      gi_wp2
      refine ⟨by simp, .inl ⟨_, _, rfl, run_takeDeferred HD.out, ?_⟩⟩
      exact ⟨_, results_tmp rfl _ _ _, by rw [HU.out]; rfl, HDB.out⟩
     ·have f2 : ((N2 : Int) == (h.2.1.length : Int)) = false := by rw [beq_eq_false_iff_ne]; omega
      have t2' : decide (N2 = h.2.1.length) = false := by simpa using g2
      rw [t2'] at HU
      clear g2 t2'
      gi_wp2
      refine ⟨by simp, .inl ⟨_, _, rfl, run_takeDeferred HD.out, ?_⟩⟩
      exact ⟨_, results_tmp rfl _ _ _, by rw [HU.out]; rfl, HDB.out⟩
    ·have f1 : ((N1 : Int) == (h.1.length : Int)) = false := by rw [beq_eq_false_iff_ne]; omega
     have t1' : decide (N1 = h.1.length) = false := by simpa using g1
     rw [t1', Bool.false_and] at HU
     clear g1 t1'
     gi_wp2
     refine ⟨by simp, .inl ⟨_, _, rfl, run_takeDeferred HD.out, ?_⟩⟩
     exact ⟨_, results_tmp rfl _ _ _, by rw [HU.out]; rfl, HDB.out⟩
   case stop =>
    rintro D' c pre W _ _ h' _
    exact h'.elim
end
section
open Go.RowKit Go.Shelf Go.Lib
attribute [local go_sem] Oper.semAt_some
theorem keepsFrom_below {B : Nat} {W W' : World} (h : Below W.heap.size W W') : KeepsFrom B W W' :=
 ⟨h.size, fun _ _ _ hk _ => (h.block _ (Array.getElem?_eq_some_iff.1 hk).1).trans hk⟩
theorem blk_put {w : World} {B : Nat} {t : TypeId} {cs : List Value} (h : Blk w B t cs) {l : Nat} (hne : B ≠ l) (o : Obj) : Blk (w.putObj l o) B t cs := (World.putObj_heap_other hne).trans h
set_option maxRecDepth 100000 in
set_option maxHeartbeats 4000000 in
theorem hmay_any (v0 v1 v2 : Value) (h : HistM) (w : World) (h0 : Texts w v0 h.1) (h1 : Texts w v1 h.2.1) (h2 : TxnsS w v2 h.2.2) (hm : Modst h) (hT : Lib.Utf8Tabs 1 2 w) :
  Calls Tryz.prog 76 #[.agg #[v0, v1, v2]] w fun e w' => e = .returned (.int .i64 (errH h)) ∧ Below w.heap.size w w' := by
 have HH := Lib.hid (fun w' (hb : Below w.heap.size w w') => heads_any v0 v1 v2 h w' (h0.below hb) (h1.below hb) (h2.below hb) hm (Utf8Tabs_below hT hb))
 have HC := Lib.hid (fun B w' (hb : Below w.heap.size w w') (h3 : Three w' B v0 v1 v2) => containsfunc_any v0 v1 v2 v2 h.1 h.2.2 B w' h3 (h0.below hb) (h2.below hb) hm.2.2.1)
 have T0 := Lib.hid h0
 have T1 := Lib.hid h1
 have T2 := Lib.hid h2
 have HM := Lib.hid hm
 obtain ⟨p2, c2, rfl, -⟩ := h2
 obtain ⟨p0, c0, rfl, -⟩ := h0
 obtain ⟨p1, c1, rfl, -⟩ := h1
 clear hm hT
 refine (callsIn_wide (n := 10)).1 ?_
 refine callsIn_of_wp_marks Tryz.func76 rfl trivial ?_ rfl
 simp only [Tryz.ntmps76, List.size_toArray, List.length_cons, List.length_nil, Nat.reduceAdd, Nat.reduceSub, Array.replicate_succ, Array.replicate_zero, List.push_toArray, List.append_toArray, List.nil_append, List.cons_append]
 have b0 := Blk.new w 25 [.slice p0 h.1.length c0, .slice p1 h.2.1.length c1, .slice p2 h.2.2.length c2]
 have b1 := Blk.new (w.alloc (.cells #[.slice p0 h.1.length c0, .slice p1 h.2.1.length c1, .slice p2 h.2.2.length c2] 25)) 26 [.int .i64 0]
 simp only [World.size_alloc] at b1
 replace b0 := b0.alloc (.cells #[.int .i64 0] 26)
 have hb0 : Below w.heap.size w ((w.alloc (.cells #[.slice p0 h.1.length c0, .slice p1 h.2.1.length c1, .slice p2 h.2.2.length c2] 25)).alloc (.cells #[.int .i64 0] 26)) := ((Below.refl _ w).alloc (Nat.le_refl _) _).alloc (by simp) _
 gi_wp2_with fail
 refine ⟨trivial, (callsIn_wide.2 (HH.out _ hb0)).mono ?_⟩
 rintro e w1 ⟨rfl, hb1⟩
 have hbw1 := below_next hb0 hb1
 have d0 := b0.later hb1
 have d1 := b1.later hb1
 clear b0 b1 hb0 hb1
 have x0 := d0.cell 0 rfl
 have x1 := d0.cell 1 rfl
 have x2 := d0.cell 2 rfl
 have y0 := d1.cell 0 rfl
 have y1 := d1.frozen 0
 have HR : RowKit.Hid (∀ b, okHeads h = b → errH h = if b then (if h.2.2.all (okTxn h.1.length) && ((allOps h).all (okOp h.2.1.length) && usedH h) then 0 else 4) else 4) := Lib.hid (fun b hb => by
  unfold errH mayH
  rw [hb]
  cases b
  ·simp
  ·rw [Bool.true_and, if_pos rfl])
 generalize okHeads h = b at HR
 have HR2 := Lib.hid (HR.out _ rfl)
 have facts : ∀ (w' : World), Below w1.heap.size w1 w' → Below w.heap.size w w' ∧ Blk w' w.heap.size 25 [.slice p0 h.1.length c0, .slice p1 h.2.1.length c1, .slice p2 h.2.2.length c2] ∧ Blk w' (w.heap.size + 1) 26 [.int .i64 0]   := fun w' hb => ⟨below_next hbw1 hb, d0.later hb, d1.later hb⟩
 have FX := Lib.hid facts
 have HB1 := Lib.hid hbw1
 have D1 := Lib.hid d1
 clear facts HR hbw1 d0 d1
 cases b with
 | false =>
  have hE := HR2.out
  rw [if_neg (by simp)] at hE
  have HE := Lib.hid hE
  clear hE HR2
  gi_wp2_with fail
  refine ⟨trivial, ?_⟩
  gi_wp2_with fail
  have c4 := (D1.out.set 0 (.int .i64 4)).cell 0 rfl
  refine ⟨.int .i64 4, ?_, by rw [HE.out], HB1.out.setCell (by show w.heap.size ≤ w.heap.size + 1; omega) _⟩
  simp [results, Tryz.results76, go_sem, c4]
 | true =>
  have hE := HR2.out
  rw [if_pos rfl] at hE
  have HC2 := Lib.hid (HC.out w.heap.size w1 HB1.out ⟨x0, x1, x2⟩)
  have HOK : RowKit.Hid (h.2.2.all (okTxn h.1.length) = true → ∀ t ∈ h.2.2, 0 ≤ t.1 ∧ t.1 < h.1.length) := Lib.hid (fun ha t ht => by
   have := List.all_eq_true.1 ha t ht
   simp only [okTxn, inside, Bool.and_eq_true, decide_eq_true_eq] at this
   exact this.1)
  clear HC HH
  generalize h.2.2.all (okTxn h.1.length) = b2 at *
  cases b2 with
  | false =>
   rw [Bool.false_and, if_neg (by simp)] at hE
   have HE := Lib.hid hE
   clear hE HR2
   gi_wp2_with fail
   refine ⟨trivial, (callsIn_wide.2 HC2.out).mono ?_⟩
   rintro e w2 ⟨rfl, hb2⟩
   obtain ⟨hw2, d0, d1⟩ := FX.out _ hb2
   have y0' := d1.cell 0 rfl
   have y1' := d1.frozen 0
   have D2 := Lib.hid d1
   clear hb2 d0 d1 x0 x1 x2 y0 y1
   gi_wp2_with fail
   have c4 := (D2.out.set 0 (.int .i64 4)).cell 0 rfl
   refine ⟨.int .i64 4, ?_, by rw [HE.out], hw2.setCell (by show w.heap.size ≤ w.heap.size + 1; omega) _⟩
   simp [results, Tryz.results76, go_sem, c4]
  | true =>
   rw [Bool.true_and] at hE
   have HE := Lib.hid hE
   clear hE HR2
   gi_wp2_with fail
   refine ⟨trivial, (callsIn_wide.2 HC2.out).mono ?_⟩
   rintro e w2 ⟨rfl, hb2⟩
   obtain ⟨hw2, d0, d1⟩ := FX.out _ hb2
   have x0' := d0.cell 0 rfl
   have x1' := d0.cell 1 rfl
   have x2' := d0.cell 2 rfl
   clear hb2 x0 x1 x2 y0 y1
   gi_wp2_with fail
   refine ⟨trivial, (ops_in Fence.wide 9 trivial rfl _ _ _ _).mono ?_⟩
   rintro e w3 ⟨rfl, rfl⟩
   gi_wp2_with fail
   have t1 := three_new w2 (.slice p0 h.1.length c0) (.slice p1 h.2.1.length c1) (.slice p2 h.2.2.length c2) 25
   have k0 := d0.alloc (.cells #[.slice p0 h.1.length c0, .slice p1 h.2.1.length c1, .slice p2 h.2.2.length c2] 25)
   have k1 := d1.alloc (.cells #[.slice p0 h.1.length c0, .slice p1 h.2.1.length c1, .slice p2 h.2.2.length c2] 25)
   have hb' := hw2.alloc hw2.size (.cells #[.slice p0 h.1.length c0, .slice p1 h.2.1.length c1, .slice p2 h.2.2.length c2] 25)
   have hsz : w.heap.size + 1 < w2.heap.size := d1.lt
   have hsz1 : (w2.alloc (.cells #[.slice p0 h.1.length c0, .slice p1 h.2.1.length c1, .slice p2 h.2.2.length c2] 25)).heap.size = w2.heap.size + 1 := by simp
   obtain ⟨W1, hW1⟩ : ∃ W1, w2.alloc (.cells #[.slice p0 h.1.length c0, .slice p1 h.2.1.length c1, .slice p2 h.2.2.length c2] 25) = W1 := ⟨_, rfl⟩
   rw [hW1] at t1 k0 k1 hb' hsz1 ⊢
   clear hW1 d0 d1 x0' x1' x2'
   refine wpIn_rangeFunc_ownH rfl (by omega) (gf := 180) (lb := #[.pointer (some ⟨w2.heap.size, 0, none⟩)]) rfl trivial (enters_of Tryz.func180 (by kernel_rfl) rfl)
    (ops_stops (fun _ => True) Fence.wide 9 trivial rfl (by omega) w2.heap.size w _ _ _ h.2.2 HM.out.2.2.1 T2.out HM.out.2.2.2.2.2 (fun _ _ => trivial) W1 hb' t1) belowK_t (belowK_b (by omega)) (Below.refl _ _) (fun _ => rfl)
    (fun pre W => ((∀ x ∈ pre, okOp h.2.1.length x.1.2 = true) ∧ Blk W w.heap.size 25 [.slice p0 h.1.length c0, .slice p1 h.2.1.length c1, .slice p2 h.2.2.length c2] ∧ Blk W (w.heap.size + 1) 26 [.int .i64 0]) ∧ Below w.heap.size w W)
    (fun c pre W => (c = .ret ∧ (∃ x ∈ pre, okOp h.2.1.length x.1.2 = false) ∧ Blk W (w.heap.size + 1) 26 [.int .i64 4]) ∧ Below w.heap.size w W)
    (OwnFrom.and (fun s A B row hs hg hr => by
      have hne : ∀ b, b < W1.heap.size → some b ≠ row := fun b hb e => by have := (hr b e.symm).1; omega
      exact ⟨hs.1, hs.2.1.kept hg (hne _ (by omega)), hs.2.2.kept hg (hne _ (by omega))⟩) (ownFrom_below (Nat.le_refl _) (by omega)))
    (fun c => OwnFrom.and (fun s A B row hs hg hr => by
      have hne : ∀ b, b < W1.heap.size → some b ≠ row := fun b hb e => by have := (hr b e.symm).1; omega
      exact ⟨hs.1, hs.2.1, hs.2.2.kept hg (hne _ (by omega))⟩) (ownFrom_below (Nat.le_refl _) (by omega)))
    ⟨⟨(fun x hx => by cases hx), k0, k1⟩, hb'⟩
    (fun x a' W => ∃ Bx, Blk W Bx 51 [.bool x.1.2.1, .int .i64 x.1.2.2.1, .int .i64 x.1.2.2.2.1, .int .i64 x.1.2.2.2.2] ∧ a' = { tmps := #[.agg #[.slice p0 h.1.length c0, .slice p1 h.2.1.length c1, .slice p2 h.2.2.length c2], .pointer (some ⟨w.heap.size, 0, none⟩), .pointer (some ⟨w.heap.size + 1, 0, none⟩), undef, .pointer (some ⟨Bx, 0, none⟩), .agg #[.slice p0 h.1.length c0, .slice p1 h.2.1.length c1, .slice p2 h.2.2.length c2], .bool true, .bool false, .bool false, .pointer (some ⟨w.heap.size, 2, none⟩), .slice p2 h.2.2.length c2, .func (.func 131) #[] #[.pointer (some ⟨w.heap.size, 0, none⟩)], .bool false, .bool false, .agg #[.slice p0 h.1.length c0, .slice p1 h.2.1.length c1, .slice p2 h.2.2.length c2], .func (.func 180) #[] #[.pointer (some ⟨w2.heap.size, 0, none⟩)], .agg #[.int .i64 (x.1.1.1 : Nat), .int .i64 (x.1.1.2 : Nat)], .agg #[.bool x.1.2.1, .int .i64 x.1.2.2.1, .int .i64 x.1.2.2.2.1, .int .i64 x.1.2.2.2.2], undef, undef, undef, undef, undef, undef, undef], defers := [] })
    (fun x a' _ X Y row hs hg hr => by
     obtain ⟨Bx, r2, r3⟩ := hs
     exact ⟨Bx, r2.kept hg (fun e => by obtain ⟨-, o, ho, hc⟩ := hr Bx e.symm; have r2' : X.heap[Bx]? = some _ := r2; rw [r2'] at ho; cases ho; cases hc), r3⟩)
    ?assign ?body ?done ?stop
   case assign =>
    rintro l pre x W K ⟨⟨q1, q2, q3⟩, hB⟩ hK
    simp only [encI]
    gi_wp2
    exact hK _ _ ((KeepsOthers.alloc _ _).from _) ((Below.refl _ W).alloc hB.size _) ⟨⟨q1, q2.alloc _, q3.alloc _⟩, hB.alloc hB.size _⟩ ⟨W.heap.size, Blk.new W _ [_, _, _, _], rfl⟩
   case body =>
    rintro l pre x a' W hl - ⟨⟨q1, q2, q3⟩, hB⟩ ⟨Bx, bX, rfl⟩ hlt2
    have x0 := q2.cell 0 rfl
    have x1 := q2.cell 1 rfl
    have x2 := q2.cell 2 rfl
    have z0 := bX.cell 0 rfl
    have z1 := bX.cell 1 rfl
    have z2 := bX.cell 2 rfl
    have z3 := bX.cell 3 rfl
    have HO := Lib.hid (op_any (.slice p0 h.1.length c0) (.slice p1 h.2.1.length c1) (.slice p2 h.2.2.length c2) h.2.1 x.1.2 W (T1.out.below hB))
    have HQ1 := Lib.hid q1
    have HB := Lib.hid hB
    have Q2 := Lib.hid q2
    have Q3 := Lib.hid q3
    obtain ⟨b3, hb3⟩ : ∃ b3, okOp h.2.1.length x.1.2 = b3 := ⟨_, rfl⟩
    have HB3 := Lib.hid hb3
    rw [hb3] at HO
    clear q1 q2 q3 hB hb3 bX
    gi_wp2_with fail
    refine ⟨trivial, ((callsIn_wide.2 HO.out).inRound l).mono ?_⟩
    rintro e w4 ⟨rfl, hb4⟩
    have hB4 := below_next HB.out hb4
    have k4 := Q3.out.later hb4
    have y4 := k4.cell 0 rfl
    have y5 := k4.frozen 0
    have K4 := Lib.hid k4
    have KF := Lib.hid (keepsFrom_below (B := W1.heap.size) hb4)
    have BW : RowKit.Hid (Below w.heap.size W w4) := Lib.hid (hb4.mono HB.out.size)
    have Q4 := Lib.hid (Q2.out.later hb4)
    clear k4 hb4 x0 x1 x2 z0 z1 z2 z3
    cases b3 with
    | true =>
     gi_wp2_with fail
     exact ⟨KF.out, BW.out, ⟨⟨(fun y hy => by
      rcases List.mem_append.1 hy with hy | hy
      ·exact HQ1.out y hy
      ·obtain rfl : y = x := by simpa using hy
       exact HB3.out), Q4.out, K4.out⟩, hB4⟩⟩
    | false =>
     gi_wp2_with fail
     exact ⟨KF.out.trans (KeepsFrom.of_grownBy (grownBy_setCell' _ _ _) (fun j e => by cases e; omega)), ⟨rfl, ⟨x, by simp, HB3.out⟩, K4.out.set 0 _⟩, hB4.setCell (by show w.heap.size ≤ w.heap.size + 1; omega) _⟩
   case done =>
    rintro Dd xs W hD hS ⟨⟨q1, q2, q3⟩, hB⟩ hd
    have hall : (allOps h).all (okOp h.2.1.length) = true := by
     rw [List.all_eq_true]
     intro o ho
     rw [show allOps h = h.2.2.flatMap (·.2.2) from rfl, ← items_ops, ← hS] at ho
     obtain ⟨y, hy, rfl⟩ := List.mem_map.1 ho
     obtain ⟨x, hx, rfl⟩ := List.mem_map.1 hy
     exact q1 x hx
    have hrk : ∀ o ∈ allOps h, 0 ≤ o.2.1 ∧ o.2.1 < h.2.1.length := fun o ho => by
     have := List.all_eq_true.1 hall o ho
     simp only [okOp, inside, Bool.and_eq_true, decide_eq_true_eq] at this
     exact this.1
    have HE2 := HE.out
    rw [hall, Bool.true_and] at HE2
    have HU := Lib.hid (used_in Fence.wide 9 trivial trivial trivial rfl (by omega) _ _ _ h W (T0.out.below hB) (T1.out.below hB) (T2.out.below hB) HM.out (HOK.out (by trivial)) hrk)
    have HE3 := Lib.hid HE2
    have HB := Lib.hid hB
    have Q3 := Lib.hid q3
    have HD := Lib.hid hd
    have x0 := q2.cell 0 rfl
    have x1 := q2.cell 1 rfl
    have x2 := q2.cell 2 rfl
    generalize usedH h = b4 at HU HE3
    clear q1 q2 q3 hB hS hall hrk HE2 hd
    gi_wp2_with fail
    refine ⟨trivial, HU.out.mono ?_⟩
    rintro e w4 ⟨rfl, hb4⟩
    have hB4 := below_next HB.out hb4
    have k4 := Q3.out.later hb4
    have y4 := k4.cell 0 rfl
    have y5 := k4.frozen 0
    have hd4 : w4.heap[Dd]? = some (.deferred (some [])) := (hb4.block Dd (Array.getElem?_eq_some_iff.1 HD.out).1).trans HD.out
    have HD4 := Lib.hid hd4
    have K4 := Lib.hid k4
    have hne : w.heap.size + 1 ≠ Dd := by omega
    clear k4 hb4 x0 x1 x2 hd4
    cases b4 with
    | true =>
     have k5 := blk_put (K4.out.set 0 (.int .i64 0)) hne (.deferred none)
     have K5 := Lib.hid k5
     clear k5
     gi_wp2_with fail
     refine ⟨by simp, .inl ⟨_, _, rfl, run_takeDeferred ((Below.heap_setCell _ _ _ _ (by simp; omega)).trans HD4.out), ?_⟩⟩
     have c4 := K5.out.cell 0 rfl
     exact ⟨.int .i64 0, by simp [results, Tryz.results76, go_sem, c4], by rw [HE3.out]; rfl, (hB4.setCell (by show w.heap.size ≤ w.heap.size + 1; omega) _).trans (belowK_b (w := W1) (by omega) _ Dd _ _ hD ((Below.heap_setCell _ _ _ _ (by simp; omega)).trans HD4.out) rfl rfl)⟩
    | false =>
     have k5 := blk_put (K4.out.set 0 (.int .i64 4)) hne (.deferred none)
     have K5 := Lib.hid k5
     clear k5
     gi_wp2_with fail
     refine ⟨by simp, .inl ⟨_, _, rfl, run_takeDeferred ((Below.heap_setCell _ _ _ _ (by simp; omega)).trans HD4.out), ?_⟩⟩
     have c4 := K5.out.cell 0 rfl
     exact ⟨.int .i64 4, by simp [results, Tryz.results76, go_sem, c4], by rw [HE3.out]; rfl, (hB4.setCell (by show w.heap.size ≤ w.heap.size + 1; omega) _).trans (belowK_b (w := W1) (by omega) _ Dd _ _ hD ((Below.heap_setCell _ _ _ _ (by simp; omega)).trans HD4.out) rfl rfl)⟩
   case stop =>
    rintro Dd c pre W hD hpf ⟨⟨rfl, ⟨x, hx, hx2⟩, q3⟩, hB⟩ hd
    have hall : (allOps h).all (okOp h.2.1.length) = false := by
     rw [List.all_eq_false]
     refine ⟨x.1.2, ?_, by rw [hx2]; exact Bool.false_ne_true⟩
     rw [show allOps h = h.2.2.flatMap (·.2.2) from rfl, ← items_ops]
     exact List.mem_map_of_mem (hpf.subset (List.mem_map_of_mem hx))
    have HE2 := HE.out
    rw [hall, Bool.false_and, if_neg (by simp)] at HE2
    have HE3 := Lib.hid HE2
    have hne : w.heap.size + 1 ≠ Dd := by omega
    have k5 := blk_put q3 hne (.deferred none)
    have K5 := Lib.hid k5
    clear k5 HE2 hall hx hx2
    gi_wp2_with fail
    refine ⟨by simp, .inl ⟨_, _, rfl, run_takeDeferred hd, ?_⟩⟩
    have c4 := K5.out.cell 0 rfl
    exact ⟨.int .i64 4, by simp [results, Tryz.results76, go_sem, c4], by rw [HE3.out], hB.trans (belowK_b (w := W1) (by omega) _ Dd _ _ hD hd rfl rfl)⟩
end
section
open Go.RowKit Go.Lib
def idxs (p : TxnM → Bool) (L : List TxnM) (k : Nat) : List Int := ((List.range k).filter fun i => p (L.getD i noTxn)).map fun i : Nat => (i : Int)
theorem idxs_next (p : TxnM → Bool) (L : List TxnM) (k : Nat) : idxs p L (k + 1) = if p (L.getD k noTxn) then idxs p L k ++ [(k : Int)] else idxs p L k := by
 unfold idxs
 rw [List.range_succ, List.filter_append, List.map_append]
 by_cases h : p (L.getD k noTxn) = true
 ·rw [if_pos h, List.filter_cons, if_pos h]
  rfl
 ·rw [if_neg h, List.filter_cons, if_neg h]
  simp
theorem idxs_len (p : TxnM → Bool) (L : List TxnM) (k : Nat) : (idxs p L k).length ≤ k := by
 unfold idxs
 rw [List.length_map]
 exact Nat.le_trans (List.length_filter_le _ _) (by simp)
def whereL (p : TxnM → Bool) (h : HistM) : List Int := if mayH h then idxs p h.2.2 h.2.2.length else []
theorem whereL_yes (p : TxnM → Bool) {h : HistM} (hm : mayH h = true) : whereL p h = idxs p h.2.2 h.2.2.length := by simp [whereL, hm]
theorem whereL_no (p : TxnM → Bool) {h : HistM} (hm : mayH h = false) : whereL p h = [] := by simp [whereL, hm]
def infosP (t : TxnM) : Bool := t.2.1 == 3
theorem err_yes {h : HistM} (hm : mayH h = true) : errH h = 0 := by simp [errH, hm]
theorem err_no {h : HistM} (hm : mayH h = false) : errH h = 4 := by simp [errH, hm]
set_option maxHeartbeats 1000000 in
theorem infos1_any (t : TxnM) (sv : Value) (w : World) :
  Calls Tryz.prog 142 #[.agg #[.int .i64 t.1, .int .i64 t.2.1, sv]] w fun e w' => e = .returned (.bool (infosP t)) ∧ Below w.heap.size w w' := by
 go_enter Tryz.func142, Tryz.ntmps142
 go_wp2
 go_ret
 exact ⟨rfl, by go_grown⟩
set_option maxRecDepth 100000 in
set_option maxHeartbeats 4000000 in
theorem where_infos (v0 v1 v2 : Value) (h : HistM) (w : World) (h0 : Texts w v0 h.1) (h1 : Texts w v1 h.2.1) (h2 : TxnsS w v2 h.2.2) (hm : Modst h) (hT : Lib.Utf8Tabs 1 2 w) :
  Calls Tryz.prog 141 #[.agg #[v0, v1, v2], .func (.func 142) #[] #[]] w fun e w' => ∃ v', e = .returned v' ∧ IntsS w' v' (whereL (infosP) h) ∧ Below w.heap.size w w' := by
 have HMay := Lib.hid (fun w' (hb : Below w.heap.size w w') => hmay_any v0 v1 v2 h w' (h0.below hb) (h1.below hb) (h2.below hb) hm (Utf8Tabs_below hT hb))
 have HMod := Lib.hid hm
 obtain ⟨p2, c2, rfl, hp⟩ := h2
 obtain ⟨p0, c0, rfl, -⟩ := h0
 obtain ⟨p1, c1, rfl, -⟩ := h1
 have HX := Lib.hid hp
 have m3 : h.2.2.length ≤ 1000 := hm.2.2.1
 obtain ⟨i0, hi, hz0, hz1, hz2⟩ := info_parts info_i64
 have en := enters_of Tryz.func142 (by kernel_rfl) rfl
 have b0 := Blk.new w 25 [.slice p0 h.1.length c0, .slice p1 h.2.1.length c1, .slice p2 h.2.2.length c2]
 have hb0 : Below w.heap.size w (w.alloc (.cells #[.slice p0 h.1.length c0, .slice p1 h.2.1.length c1, .slice p2 h.2.2.length c2] 25)) := (Below.refl _ w).alloc (Nat.le_refl _) _
 have HB0 := Lib.hid hb0
 have B0 := Lib.hid b0
 clear hp hm hT b0 hb0
 go_enter Tryz.func141, Tryz.ntmps141
 go_wp2_with fail
 refine (HMay.out _ HB0.out).mono ?_
 rintro e w1 ⟨rfl, hb1⟩
 have hbw1 := below_next HB0.out hb1
 have d0 := B0.out.later hb1
 have x2 := d0.cell 2 rfl
 clear d0 hb1
 cases hmm : mayH h with
 | false =>
  have HE := Lib.hid (err_no hmm)
  have HW := Lib.hid (whereL_no (infosP) hmm)
  clear hmm
  rw [HE.out]
  go_wp2_with fail
  go_ret
  exact ⟨_, rfl, by rw [HW.out]; exact ints_none _, hbw1⟩
 | true =>
  have HE := Lib.hid (err_yes hmm)
  have HW := Lib.hid (whereL_yes (infosP) hmm)
  clear hmm
  rw [HE.out]
  go_wp2_with fail
  go_loopw [5, 14] (fun l i wr => ∃ k : Nat, k ≤ h.2.2.length ∧ i = .int .i64 k ∧ wr.ownsRow w.heap.size 3 1 l (idxs (infosP) h.2.2 k).length (vints (idxs (infosP) h.2.2 k)) ∧ Below w.heap.size w wr) (fun _ i _ => h.2.2.length - (RowKit.intOf i).toNat)
  case atStart => exact ⟨0, Nat.zero_le _, rfl, World.ownsRow_nil _ _ _ _, hbw1⟩
  case round =>
   obtain ⟨k, hk, rfl, hown, hbw⟩ := hrel
   by_cases hk1 : k < h.2.2.length
   ·obtain ⟨g, sv, rfl, a1, a2, a3, ⟨p3, c3, rfl, -⟩⟩ := HX.out k hk1
    generalize (h.2.2.getD k noTxn).2.2.length = n3 at a3
    have a1' := cell_later hbw a1
    have a2' := cell_later hbw a2
    have a3' := cell_later hbw a3
    have hnx := idxs_next (infosP) h.2.2 k
    have hil := idxs_len (infosP) h.2.2 k
    have hbx := hbw.alloc hbw.size (.cells #[.int .i64 (h.2.2.getD k noTxn).1, .int .i64 (h.2.2.getD k noTxn).2.1, .slice p3 n3 c3] 47)
    obtain ⟨I, hI⟩ : ∃ I, idxs (infosP) h.2.2 k = I := ⟨_, rfl⟩
    rw [hI] at hown hnx hil
    obtain ⟨t, ht⟩ : ∃ t, h.2.2.getD k noTxn = t := ⟨_, rfl⟩
    rw [ht] at a1' a2' hnx hbx
    have HC := Lib.hid (infos1_any t (.slice p3 n3 c3) (wr.alloc (.cells #[.int .i64 t.1, .int .i64 t.2.1, .slice p3 n3 c3] 47)))
    obtain ⟨t1, t2, t3⟩ := t
    simp only at a1' a2' hnx HC hbx
    have HBX := Lib.hid hbx
    obtain ⟨b, hb⟩ : ∃ b, (infosP) (t1, t2, t3) = b := ⟨_, rfl⟩
    rw [hb] at hnx HC
    have HN : RowKit.Hid ((b = true → idxs (infosP) h.2.2 (k + 1) = I ++ [(k : Int)]) ∧ (b = false → idxs (infosP) h.2.2 (k + 1) = I)) := Lib.hid ⟨fun e => by rw [hnx, if_pos e], fun e => by rw [hnx, if_neg (by rw [e]; exact Bool.false_ne_true)]⟩
    clear a1 a2 a3 ht hI hb hnx hbx
    cases b with
    | false =>
     go_wp2_with fail
     refine HC.out.mono ?_
     rintro e w3 ⟨rfl, hb3⟩
     have hown3 := owns_later (hown.alloc _) hb3
     have hbw3 := below_next HBX.out hb3
     clear hb3 hown
     go_wp2_with fail
     go_roundw
     case rel => exact ⟨k + 1, by omega, by go_num, by rw [HN.out.2 (by trivial)]; exact hown3, hbw3⟩
     case measure => simp [RowKit.intOf]; omega
    | true =>
     go_wp2_with fail
     refine HC.out.mono ?_
     rintro e w3 ⟨rfl, hb3⟩
     have hown3 := owns_later (hown.alloc _) hb3
     have hbw3 := below_next HBX.out hb3
     clear hb3 hown
     go_wp2_with (at_builtin; refine wpList_append_own _ rfl _ _ 56 rfl w.heap.size 3 i0 (.int .i64 0) 1 8 Tryz.underlying56 hi hz0 hz1 hz2 rfl (by decide) _ _ _ rfl (hown3.alloc _) ⟨w3.heap.size, 0, none⟩ 1 1 [.int .i64 (k : Nat)] rfl rfl (news_int _ _ _) (ones_int _) (by unfold maxLen; omega) (by omega) (by have := hbw3.size; simp; omega) ?_)
     intro v4 w4 hown4 hgrow hnil
     have hb4 : Below w.heap.size w w4 := (hbw3.alloc hbw3.size _).grown hgrow (by have := hbw3.size; simp; omega) (fun k hk => (hown3.lt k hk).1)
     have HO : RowKit.Hid (w4.ownsRow w.heap.size 3 1 v4 (idxs (infosP) h.2.2 (k + 1)).length (vints (idxs (infosP) h.2.2 (k + 1)))) := Lib.hid (by rw [HN.out.1 (by trivial), ← vints_snoc, List.length_append]; exact hown4)
     clear hown4 hgrow hnil hown3 hbw3
     go_wp2_with fail
     go_roundw
     case rel => exact ⟨k + 1, by omega, by go_num, HO.out, hb4⟩
     case measure => simp [RowKit.intOf]; omega
   ·have hke : k = h.2.2.length := by omega
    subst hke
    have HO := Lib.hid (own_intsI hown)
    clear hown
    go_wp2_with fail
    go_ret
    exact ⟨_, rfl, by rw [HW.out]; exact HO.out, hbw⟩
set_option maxRecDepth 100000 in
set_option maxHeartbeats 1000000 in
theorem infos_any (v0 v1 v2 : Value) (h : HistM) (w : World) (h0 : Texts w v0 h.1) (h1 : Texts w v1 h.2.1) (h2 : TxnsS w v2 h.2.2) (hm : Modst h) (hT : Lib.Utf8Tabs 1 2 w) :
  Calls Tryz.prog 93 #[.agg #[v0, v1, v2]] w fun e w' => ∃ v', e = .returned v' ∧ IntsS w' v' (whereL infosP h) ∧ Below w.heap.size w w' := by
 have hb : Below w.heap.size w (w.alloc (.cells #[v0, v1, v2] 25)) := (Below.refl _ w).alloc (Nat.le_refl _) _
 have H1 := Lib.hid (where_infos v0 v1 v2 h _ (h0.below hb) (h1.below hb) (h2.below hb) hm (Utf8Tabs_below hT hb))
 have HB := Lib.hid hb
 obtain ⟨p2, c2, rfl, -⟩ := h2
 obtain ⟨p0, c0, rfl, -⟩ := h0
 obtain ⟨p1, c1, rfl, -⟩ := h1
 clear hb hm hT
 go_enter Tryz.func93, Tryz.ntmps93
 go_wp2_with fail
 refine H1.out.mono ?_
 rintro e w3 ⟨v', rfl, hv, hb3⟩
 have HV := Lib.hid hv
 clear hv
 go_wp2_with fail
 go_ret
 exact ⟨_, rfl, HV.out, below_next HB.out hb3⟩
end
end Go.Proofs.YtmgchjddpmmglaaGreatDoor
