/-
  Layer 20 (part): how far a search is, in plain words; and a frame's edges taken one by one in memory. No conditions.
-/
import Derived.Test.YtldcbapjiflblaaDoorPxFiB
import Derived.Ground.Names2Prog
import Derived.Shelf.Lays
import Derived.Shelf.Lays2
import Derived.Shelf.SlLaysF
import Derived.Shelf.SlLaysF0
import Derived.Shelf.Slices.Turned
import Derived.Shelf.Slices.Clone
import Derived.Shelf.Sort.Plain
import Derived.Sort.OwnSortedInts
namespace Go.Proofs.YtldcbapjiflblaaDoor
open Go.RowKit Go.Lib
theorem least_of {P : Nat → Prop} (h : ∃ k, P k) : ∃ k, P k ∧ ∀ j, P j → k ≤ j := by
 obtain ⟨k, hk⟩ := h
 induction k using Nat.strongRecOn with
 | ind k ih =>
  by_cases h : ∃ j, j < k ∧ P j
  ·obtain ⟨j, hj, hp⟩ := h
   exact ih j hj hp
  ·exact ⟨k, hk, fun j hj => Nat.le_of_not_lt (fun hl => h ⟨j, hl, hj⟩)⟩
open Classical in
noncomputable def minOf (P : Nat → Prop) : Nat := if h : ∃ k, P k then (least_of h).choose else 0
theorem minOf_le {P : Nat → Prop} {k : Nat} (h : P k) : minOf P ≤ k := by
 unfold minOf
 rw [dif_pos ⟨k, h⟩]
 exact (least_of ⟨k, h⟩).choose_spec.2 k h
theorem minOf_at {P : Nat → Prop} (h : ∃ k, P k) : P (minOf P) := by
 unfold minOf
 rw [dif_pos h]
 exact (least_of h).choose_spec.1
theorem nodup_few {l m : List Nat} (hd : l.Nodup) (hs : ∀ x ∈ l, x ∈ m) : l.length ≤ m.length := by
 induction l generalizing m with
 | nil => exact Nat.zero_le _
 | cons a l ih =>
  rw [List.nodup_cons] at hd
  have ha := hs a (List.mem_cons_self ..)
  have h1 := ih hd.2 (m := m.erase a) (fun x hx => (List.mem_erase_of_ne (fun (e : x = a) => hd.1 (by rw [← e]; exact hx))).2 (hs x (List.mem_cons_of_mem _ hx)))
  rw [List.length_erase_of_mem ha] at h1
  have := List.length_pos_of_mem ha
  rw [List.length_cons]
  omega
def unvP (n : Nat) (f : Nat → Nat) : Nat := ((List.range n).filter fun x => decide (f x = 0)).length
theorem unv_less (n : Nat) (f : Nat → Nat) (a v : Nat) (ha : a < n) (h0 : f a = 0) (hv : v ≠ 0) : unvP n (updP f a v) + 1 = unvP n f := by
 unfold unvP
 have h1 : (List.range n).filter (fun x => decide (updP f a v x = 0)) = ((List.range n).filter fun x => decide (f x = 0)).erase a := by
  have hnd : ((List.range n).filter fun x => decide (f x = 0)).Nodup := List.nodup_range.filter _
  rw [hnd.erase_eq_filter, List.filter_filter]
  refine List.filter_congr fun x _ => ?_
  by_cases e : x = a
  ·subst e
   simp [updP_same, hv]
  ·rw [updP_other f e]
   simp [e]
 have hm : a ∈ (List.range n).filter fun x => decide (f x = 0) := by simp [ha, h0]
 rw [h1, List.length_erase_of_mem hm]
 have := List.length_pos_of_mem hm
 omega
theorem unv_start (n : Nat) : unvP n (fun _ => 0) = n := by
 unfold unvP
 rw [List.filter_eq_self.2 (fun _ _ => by simp), List.length_range]
def askP (S : List (Nat × List Nat)) : Nat := (S.map fun f => f.2.length + 1).sum
theorem ask_snoc (S : List (Nat × List Nat)) (f : Nat × List Nat) : askP (S ++ [f]) = askP S + (f.2.length + 1) := by simp [askP]
def measP (n : Nat) (s : StP) : Nat := unvP n s.num * 600 + askP s.stack
def BndP (n : Nat) (s : StP) : Prop := s.count + unvP n s.num = n ∧ s.parts.length + s.stack.length ≤ s.count
theorem held_few {n : Nat} {adj : Nat → List Nat} {s : StP} (h : InvP n adj s) : s.held.length ≤ n := by
 have h1 := held_nodup h
 have h3 := nodup_few (m := List.range n) h1 (fun x hx => List.mem_range.2 (h.pn x (h.hv x hx)))
 rwa [List.length_range] at h3
theorem bnd_enter {n : Nat} {adj : Nat → List Nat} {s : StP} {S : List (Nat × List Nat)} {a : Nat} (h : BndP n s) (hS : S.length = s.stack.length) (ha : a < n) (h0 : s.num a = 0) : BndP n (enterP adj s S a) := by
 obtain ⟨h1, h2⟩ := h
 have h3 := unv_less n s.num a (s.count + 1) ha h0 (by omega)
 refine ⟨?_, ?_⟩
 ·show s.count + 1 + unvP n (updP s.num a (s.count + 1)) = n
  omega
 ·show s.parts.length + (S ++ [(a, adj a)]).length ≤ s.count + 1
  rw [List.length_append, hS]
  simp
  omega
theorem FinV.popLeft {X : Nat → Prop} {w : World} {B f gb bn bl bi n : Nat} {T : List (List Nat)} {s : StP} {I : List Nat} {vh vp : Value} {g6 c6 : Nat} {Q : List (Nat × Value)} {q : Nat × Value} {ps : List Value} {S : List (Nat × List Nat)} {x b : Nat} {l : List Nat} (h : FinV X w B f gb bn bl bi n T s I vh (.slice (some ⟨g6, 0, none⟩) (Q.length + 1) c6) vp (Q ++ [q]) ps) (hs : s.stack = S ++ [(x, b :: l)]) (v : Value) (hv : Lies w (OkB X bn bl vh) v l) :
  FinV X (w.setCell ⟨g6, Q.length * 2 + 1, none⟩ v) B f gb bn bl bi n T { s with stack := S ++ [(x, l)] } I vh (.slice (some ⟨g6, 0, none⟩) (Q.length + 1) c6) vp (Q ++ [(q.1, v)]) ps := by
 obtain ⟨cur, hcur⟩ : ∃ cur, w.heap[g6]? = some (.cells cur 61 (0, 0)) := by
  rcases h.stk.2 with ⟨e0, -⟩ | ⟨g, cap, cur, e0, -, hw, -⟩
  ·cases e0
  ·injection e0 with q1 _ _
   injection q1 with q1
   injection q1 with q1 _ _
   subst q1
   exact ⟨cur, hw⟩
 have hbk : Blk w g6 61 cur.toList := by show w.heap[g6]? = _; rw [hcur]
 have hk : ∀ g cur, w.heap[g]? = some (.cells cur 3 (0, 0)) → OkB X bn bl vh g → (w.setCell ⟨g6, Q.length * 2 + 1, none⟩ v).heap[g]? = w.heap[g]? ∧ OkB X bn bl vh g := fun g cur hg ho => ⟨heap_set_ne (ty_ne hg hbk (by decide)), ho⟩
 obtain ⟨tb, fb, F, m, k1, k2⟩ := h.gr
 have hle := h.lefts
 rw [hs, List.map_append, List.map_append] at hle
 have hst := h.stk
 rw [show (Q ++ [q]).length = Q.length + 1 by simp] at hst
 have h9 := (hst.stored (Q.length * 2 + 1) v).1
 have e9 : (frC (Q ++ [q])).set (Q.length * 2 + 1) v = frC (Q ++ [(q.1, v)]) := by
  have e1 : frC (Q ++ [q]) = frC Q ++ [.int .i64 (q.1 : Int), q.2] := by simp [frC]
  have e2 : frC (Q ++ [(q.1, v)]) = frC Q ++ [.int .i64 (q.1 : Int), v] := by simp [frC]
  rw [e1, e2, List.set_append_right _ _ (by rw [frC_len]; omega), frC_len, show Q.length * 2 + 1 - Q.length * 2 = 1 by omega]
  rfl
 rw [e9] at h9
 refine ⟨h.box.far (fun e => blk_ne h.box hbk (by decide) e) _, h.num.far (fun e => blk_ne h.num hbk (by decide) e) _, h.low.far (fun e => blk_ne h.low hbk (by decide) e) _, h.is.far (fun e => blk_ne h.is hbk (by decide) e) _, owns_store h.held hbk (by decide) _ _, ?_, owns_store h.par hbk (by decide) _ _, ?_, ?_, h.parts.kept hk, h.ne, ⟨tb, fb, F, m, k1, k2.store hbk (by decide) (by decide) (by decide) (by decide) _ _⟩, h.low4⟩
 ·rw [show (Q ++ [(q.1, v)]).length = Q.length + 1 by simp]
  exact h9
 ·have hp := h.path
  rw [hs, List.map_append, List.map_append] at hp
  show (Q ++ [(q.1, v)]).map (·.1) = (S ++ [(x, l)]).map (·.1)
  rw [List.map_append, List.map_append]
  exact hp
 ·show LiesL _ _ ((Q ++ [(q.1, v)]).map (·.2)) ((S ++ [(x, l)]).map (·.2))
  rw [List.map_append, List.map_append]
  exact ((LiesL.init hle).kept hk).snoc (hv.kept hk)
end Go.Proofs.YtldcbapjiflblaaDoor
