/-
  The iterator of layer 11 (hist): all operations of a history, with their places: what it hands on to any loop's body that keeps what lay. No conditions.
-/
import Derived.Test.YthalbcmlehpfaaaDoorHistB
import Derived.RangeFuncNested
import Derived.RangeFuncBound
import Derived.RangeFuncCalls
import Derived.RangeFuncLeaves
import Derived.Shelf.Abstract
import Derived.Shelf.RegionOpen
import Derived.WalkKit
import Derived.OwnWalkIn
import Derived.TacticsInMore
import Derived.LoopNIn
import Derived.LoopIn
namespace Go.Proofs.YthalbcmlehpfaaaDoor
open Go.RowKit Go.Shelf Go.Lib

/-- An operation with its place. -/
abbrev Item := (Nat × Nat) × OpM
def encI (x : Item) : Array Value := #[.agg #[.int .i64 (x.1.1 : Nat), .int .i64 (x.1.2 : Nat)], .agg #[.bool x.2.1, .int .i64 x.2.2.1, .int .i64 x.2.2.2.1, .int .i64 x.2.2.2.2]]
/-- The first so many of a transaction. -/
def itT (i : Nat) (l : List OpM) (k : Nat) : List Item := (List.range k).map fun j => ((i, j), l.getD j noOp)
/-- All of the first so many transactions. -/
def itH (L : List TxnM) (i : Nat) : List Item := (List.range i).flatMap fun a => itT a (L.getD a noTxn).2.2 (L.getD a noTxn).2.2.length
theorem itT_succ (i : Nat) (l : List OpM) (k : Nat) : itT i l (k + 1) = itT i l k ++ [((i, k), l.getD k noOp)] := by simp [itT, List.range_succ]
theorem itH_succ (L : List TxnM) (i : Nat) : itH L (i + 1) = itH L i ++ itT i (L.getD i noTxn).2.2 (L.getD i noTxn).2.2.length := by simp [itH, List.range_succ]
theorem itT_prefix (i : Nat) (l : List OpM) (k m : Nat) (h : k ≤ m) : itT i l k <+: itT i l m := by
  induction m with
  | zero =>
    obtain rfl : k = 0 := by omega
    exact List.prefix_rfl
  | succ m ih =>
    by_cases hk : k ≤ m
    · rw [itT_succ]
      exact (ih hk).trans (List.prefix_append _ _)
    · obtain rfl : k = m + 1 := by omega
      exact List.prefix_rfl
theorem itH_prefix (L : List TxnM) (i m : Nat) (h : i ≤ m) : itH L i <+: itH L m := by
  induction m with
  | zero =>
    obtain rfl : i = 0 := by omega
    exact List.prefix_rfl
  | succ m ih =>
    by_cases hk : i ≤ m
    · rw [itH_succ]
      exact (ih hk).trans (List.prefix_append _ _)
    · obtain rfl : i = m + 1 := by omega
      exact List.prefix_rfl
theorem it_prefix (L : List TxnM) (i k : Nat) (hi : i < L.length) (hk : k ≤ (L.getD i noTxn).2.2.length) : itH L i ++ itT i (L.getD i noTxn).2.2 k <+: itH L L.length := by
  refine List.IsPrefix.trans ?_ (itH_prefix L (i + 1) L.length hi)
  rw [itH_succ]
  exact List.prefix_append_right_inj _ |>.2 (itT_prefix i _ k _ hk)
theorem it_lt (L : List TxnM) (i k : Nat) (hi : i < L.length) (hk : k < (L.getD i noTxn).2.2.length) : (itH L i ++ itT i (L.getD i noTxn).2.2 k).length < (itH L L.length).length := by
  have h := (it_prefix L i (k + 1) hi hk).length_le
  rw [itT_succ, ← List.append_assoc, List.length_append] at h
  simp only [List.length_cons, List.length_nil] at h
  omega

attribute [local go_sem] Oper.semAt_some

set_option maxHeartbeats 1000000 in
theorem ops_in (F : Fence) (n : Nat) (hF : F.fn 43) (hro : F.round = none) (v0 v1 v2 : Value) (w : World) :
    CallsIn F n Tryd.prog 43 #[.agg #[v0, v1, v2]] w fun e w' => e = .returned (.func (.func 67) #[] #[.pointer (some ⟨w.heap.size, 0, none⟩)]) ∧ w' = w.alloc (.cells #[v0, v1, v2] 25) := by
  refine callsIn_of_wp Tryd.func43 rfl hF ?_ hro
  simp only [Tryd.ntmps43, List.size_toArray, List.length_cons, List.length_nil, Nat.reduceAdd, Nat.reduceSub, Array.replicate_succ, Array.replicate_zero, List.push_toArray, List.append_toArray, List.nil_append, List.cons_append]
  gi_wp2
  go_ret
  exact ⟨rfl, rfl⟩

set_option maxRecDepth 100000 in
set_option maxHeartbeats 4000000 in
theorem ops1_in (F : Fence) (n : Nat) (hF : F.fn 67) (hro : F.round = none) (hn : 1 ≤ n) (l B : Nat) (w0 : World) (v0 v1 v2 : Value) (L : List TxnM) (hL : L.length ≤ 1000) (ht : TxnsS w0 v2 L) (hLo : ∀ t ∈ L, t.2.2.length ≤ 1000)
    (J Jx : List Item → World → Prop)
    (hA : ∀ pre W o, J pre W → J pre (W.alloc o))
    (hY : ∀ pre x W, J pre W → pre ++ [x] <+: itH L L.length → YieldAt F (n - 1) Tryd.prog l (encI x) W fun e W' =>
      (e = .returned (.bool true) ∧ J (pre ++ [x]) W' ∧ Below w0.heap.size W W') ∨ (e = .returned (.bool false) ∧ Jx (pre ++ [x]) W'))
    (W : World) (hbW : Below w0.heap.size w0 W) (h3 : Three W B v0 v1 v2) (h0 : J [] W) :
    CallsIn F n Tryd.prog 67 #[.func (.yield l) #[] #[], .pointer (some ⟨B, 0, none⟩)] W fun e W' => (∃ v, e = .returned v) ∧
      ((∃ ys, ys = itH L L.length ∧ J ys W') ∨ (∃ pre, pre <+: itH L L.length ∧ Jx pre W')) := by
  obtain ⟨p, c, rfl, hp⟩ := ht
  have HX := Lib.hid hp
  have HY := Lib.hid hY
  have HA := Lib.hid hA
  have HLo := Lib.hid hLo
  obtain ⟨q0, q1, q2⟩ := h3
  clear hp hY hA hLo
  refine callsIn_of_wp Tryd.func67 rfl hF ?_ hro
  simp only [Tryd.ntmps67, List.size_toArray, List.length_cons, List.length_nil, Nat.reduceAdd, Nat.reduceSub, Array.replicate_succ, Array.replicate_zero, List.push_toArray, List.append_toArray, List.nil_append, List.cons_append]
  gi_wp2
  gi_loopw [10] (fun i wr => ∃ k : Nat, k ≤ L.length ∧ i = .int .i64 k ∧ J (itH L k) wr ∧ Below w0.heap.size w0 wr) (fun i _ => L.length - (intOf i).toNat)
  case atStart => exact ⟨0, Nat.zero_le _, rfl, h0, hbW⟩
  case round =>
    obtain ⟨i, hi, rfl, hJs, hbw⟩ := hrel
    by_cases hlt : i < L.length
    · obtain ⟨g, sv, rfl, a1, a2, a3, ⟨p2, c2, rfl, hops⟩⟩ := HX.out i hlt
      have a1' := cell_later hbw a1
      have a2' := cell_later hbw a2
      have a3' := cell_later hbw a3
      have hm : (L.getD i noTxn).2.2.length ≤ 1000 := HLo.out _ (by
        have : L.getD i noTxn = L[i] := by simp [hlt]
        rw [this]
        exact List.getElem_mem hlt)
      have HO := Lib.hid hops
      have HS := Lib.hid (itH_succ L i)
      have HP := Lib.hid (fun k => it_prefix L i k hlt)
      obtain ⟨t, htt⟩ : ∃ t, L.getD i noTxn = t := ⟨_, rfl⟩
      rw [htt] at a1' a2' a3' hm HO HS HP
      obtain ⟨ts, tf, tl⟩ := t
      simp only at a1' a2' a3' hm HO HS HP
      obtain ⟨pre0, hpre0⟩ : ∃ q, itH L i = q := ⟨_, rfl⟩
      rw [hpre0] at hJs HS HP
      clear a1 a2 a3 hops htt hpre0
      gi_wp2
      gi_loopw [18] (fun j ws => ∃ k : Nat, k ≤ tl.length ∧ j = .int .i64 k ∧ J (pre0 ++ itT i tl k) ws ∧ Below w0.heap.size w0 ws) (fun j _ => tl.length - (intOf j).toNat)
      case atStart => exact ⟨0, Nat.zero_le _, rfl, by simpa [itT] using HA.out _ _ _ hJs, hbw.alloc hbw.size _⟩
      case round =>
        obtain ⟨k, hk, rfl, hJk, hbk⟩ := hrel
        by_cases hlt2 : k < tl.length
        · obtain ⟨g2, rfl, b1, b2, b3, b4⟩ := HO.out k hlt2
          have b1' := cell_later hbk b1
          have b2' := cell_later hbk b2
          have b3' := cell_later hbk b3
          have b4' := cell_later hbk b4
          have HS2 := Lib.hid (itT_succ i tl k)
          have hpf := HP.out (k + 1) hlt2
          obtain ⟨o, ho⟩ : ∃ o, tl.getD k noOp = o := ⟨_, rfl⟩
          rw [ho] at b1' b2' b3' b4' HS2
          rw [HS2.out, ← List.append_assoc] at hpf
          obtain ⟨ow, ok, od, on⟩ := o
          simp only at b1' b2' b3' b4' HS2 hpf
          have HPf := Lib.hid hpf
          clear b1 b2 b3 b4 ho
          have hbk2 := hbk.alloc hbk.size (.cells #[.bool ow, .int .i64 ok, .int .i64 od, .int .i64 on] 62)
          obtain ⟨fn, tmps, assign, body, hy, hR⟩ := HY.out _ ((i, k), (ow, ok, od, on)) (wr.alloc (.cells #[.bool ow, .int .i64 ok, .int .i64 od, .int .i64 on] 62)) (HA.out _ _ _ hJk) hpf
          simp only [encI] at hy
          clear hpf
          gi_wp2
          refine hR.mono ?_
          rintro e W3 (⟨rfl, hJ3, hk3⟩ | ⟨rfl, hJx3⟩)
          · gi_wp2
            go_roundw
            case rel => exact ⟨k + 1, by omega, by go_num, by rw [HS2.out, ← List.append_assoc]; exact hJ3, hbk2.trans hk3⟩
            case measure => simp [intOf]; omega
          · gi_wp2
            refine bodyPost_ret (results_none rfl _ _ _) rfl ?_
            exact ⟨⟨_, rfl⟩, .inr ⟨_, HPf.out, hJx3⟩⟩
        · obtain rfl : k = tl.length := by omega
          gi_wp2
          go_roundw
          case rel => exact ⟨i + 1, by omega, by go_num, by rw [HS.out]; exact hJk, hbk⟩
          case measure => simp [intOf]; omega
    · obtain rfl : i = L.length := by omega
      gi_wp2
      go_end0
      exact ⟨⟨_, rfl⟩, .inl ⟨_, rfl, hJs⟩⟩

theorem prefix_lt {α : Type} {a : List α} {x : α} {b : List α} (h : a ++ [x] <+: b) : a.length < b.length := by
  have := h.length_le
  rw [List.length_append] at this
  simp only [List.length_cons, List.length_nil] at this
  omega
theorem prefix_mem {α : Type} {a : List α} {x : α} {b : List α} (h : a ++ [x] <+: b) : x ∈ b := h.subset (by simp)
/-- What the iterator hands on, as the law for loops wants it; each item is such. -/
theorem ops_stops (p : Item → Prop) (F : Fence) (n : Nat) (hF : F.fn 67) (hro : F.round = none) (hn : 1 ≤ n) (B : Nat) (w0 : World) (v0 v1 v2 : Value) (L : List TxnM) (hL : L.length ≤ 1000) (ht : TxnsS w0 v2 L) (hLo : ∀ t ∈ L, t.2.2.length ≤ 1000)
    (hp : ∀ x ∈ itH L L.length, p x) (w : World) (hbw : Below w0.heap.size w0 w) (h3 : Three w B v0 v1 v2) :
    SeqStopsK F n Tryd.prog 67 #[.pointer (some ⟨B, 0, none⟩)] (fun x : { x : Item // p x } => encI x.1) (Below w0.heap.size) (fun ys => ys.map (·.1) = itH L L.length) (fun pre => pre.map (·.1) <+: itH L L.length) (itH L L.length).length w := fun l J Jx W hW hJ _ hY h0 => by
  refine (ops1_in F n hF hro hn l B w0 v0 v1 v2 L hL ht hLo (fun pre W => ∃ q : List { x : Item // p x }, q.map (·.1) = pre ∧ J q W) (fun pre W => ∃ q : List { x : Item // p x }, q.map (·.1) = pre ∧ Jx q W)
    (fun pre W o ⟨q, e, h⟩ => ⟨q, e, hJ q W _ none h (World.grownBy_alloc W o none) (fun r e => by cases e)⟩) ?_ W (below_next hbw hW) (h3.below hW) ⟨[], rfl, h0⟩).mono ?_
  · rintro pre x W' ⟨q, rfl, hj⟩ hpf
    obtain ⟨fn, tmps, assign, body, hy, hR⟩ := hY q ⟨x, hp x (prefix_mem hpf)⟩ W' hj (by have := prefix_lt hpf; simpa using this)
    refine ⟨fn, tmps, assign, body, hy, hR.mono ?_⟩
    rintro e W3 (⟨he, h1, h2⟩ | ⟨he, h1⟩)
    · exact .inl ⟨he, ⟨_, by simp, h1⟩, h2⟩
    · exact .inr ⟨he, ⟨_, by simp, h1⟩⟩
  · rintro e W' ⟨he, ⟨ys, rfl, q, hq, hj⟩ | ⟨pre, hpf, q, rfl, hj⟩⟩
    · exact ⟨he, .inl ⟨q, hq, hj⟩⟩
    · exact ⟨he, .inr ⟨q, hpf, hj⟩⟩
end Go.Proofs.YthalbcmlehpfaaaDoor
