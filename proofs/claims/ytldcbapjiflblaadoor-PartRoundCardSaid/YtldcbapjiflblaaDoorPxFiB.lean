/-
  Layer 20 (part): what keeps the finder in memory where a node is left. No conditions.
-/
import Derived.Test.YtldcbapjiflblaaDoorPxFiA
namespace Go.Proofs.YtldcbapjiflblaaDoor
open Go.RowKit Go.Lib
theorem ownsRow_take {w : World} {B size n m c : Nat} {e : TypeId} {p : Option Addr} {xs : List Value} (h : w.ownsRow B e size (.slice p n c) n xs) (hm : m ≤ n) : w.ownsRow B e size (.slice p m c) m (xs.take (m * size)) := by
 have hl : (xs.take (m * size)).length = m * size := by
  rw [List.length_take, h.1]
  have := Nat.mul_le_mul_right size hm
  omega
 rcases h.2 with ⟨e0, h0⟩ | ⟨g, cap, cur, e0, hB, hw, h1, h2, h3, h4⟩
 ·have hm0 : m = 0 := by omega
  subst hm0
  injection e0 with q1 q2 q3
  subst q1
  subst q3
  exact ⟨hl, .inl ⟨rfl, rfl⟩⟩
 ·injection e0 with q1 q2 q3
  subst q1
  subst q3
  refine ⟨hl, .inr ⟨g, _, cur, rfl, hB, hw, by omega, h2, h3, ?_⟩⟩
  have h5 := Nat.mul_le_mul_right size hm
  rw [← h4, List.take_take]
  congr 1
  omega
theorem frC_take : ∀ (Q : List (Nat × Value)) (q : Nat × Value), (frC (Q ++ [q])).take (Q.length * 2) = frC Q := by
 intro Q q
 have e : frC (Q ++ [q]) = frC Q ++ frC [q] := by simp [frC]
 rw [e, ← frC_len Q, List.take_left]
theorem LiesL.init {w : World} {ok : Nat → Prop} {vs : List Value} {Ls : List (List Nat)} {v : Value} {l : List Nat} (h : LiesL w ok (vs ++ [v]) (Ls ++ [l])) : LiesL w ok vs Ls := by
 have hl : vs.length = Ls.length := by have := h.1; simpa using this
 refine ⟨hl, fun i hi => ?_⟩
 have h1 := h.2 i (by rw [List.length_append]; omega)
 rw [show (vs ++ [v]).getD i (.slice none 0 0) = vs.getD i (.slice none 0 0) by simp [List.getD, List.getElem?_append_left (by omega : i < vs.length)], show (Ls ++ [l]).getD i [] = Ls.getD i [] by simp [List.getD, List.getElem?_append_left hi]] at h1
 exact h1
theorem LiesL.last {w : World} {ok : Nat → Prop} {vs : List Value} {Ls : List (List Nat)} {v : Value} {l : List Nat} (h : LiesL w ok (vs ++ [v]) (Ls ++ [l])) : Lies w ok v l := by
 have hl : vs.length = Ls.length := by have := h.1; simpa using this
 have h1 := h.2 Ls.length (by simp)
 rw [show (vs ++ [v]).getD Ls.length (.slice none 0 0) = v by simp [List.getD, ← hl], show (Ls ++ [l]).getD Ls.length [] = l by simp [List.getD]] at h1
 exact h1
theorem isL_out {n b : Nat} (I : List Nat) : (IsL n I).set b (.bool false) = IsL n (I.filter fun x => decide (x ≠ b)) := by
 apply List.ext_getElem
 ·simp [IsL]
 ·intro i h1 h2
  rw [List.getElem_set]
  by_cases e : b = i
  ·subst e
   simp [IsL]
  ·rw [if_neg e]
   simp only [IsL, List.getElem_map, List.getElem_range]
   congr 1
   have e2 : ¬ i = b := fun q => e q.symm
   simp [e2]
theorem isL_same {n : Nat} {I J : List Nat} (h : ∀ x, x < n → (x ∈ I ↔ x ∈ J)) : IsL n I = IsL n J := by
 unfold IsL
 refine List.map_congr_left fun x hx => ?_
 have hx' : x < n := List.mem_range.1 hx
 congr 1
 by_cases q : x ∈ I
 ·rw [decide_eq_true q, decide_eq_true ((h x hx').1 q)]
 ·rw [decide_eq_false q, decide_eq_false (fun r => q ((h x hx').2 r))]
section
variable {X : Nat → Prop} {w : World} {B f gb bn bl bi n : Nat} {T : List (List Nat)} {s : StP} {I : List Nat} {vh vs vp : Value} {qs : List (Nat × Value)} {ps : List Value}
theorem FinV.field (h : FinV X w B f gb bn bl bi n T s I vh vs vp qs ps) (i : Nat) (v : Value) :
  Blk (w.setCell ⟨f, i, none⟩ v) bn 3 (vnats (NumL n s.num)) ∧ Blk (w.setCell ⟨f, i, none⟩ v) bl 3 (vnats (NumL n s.low)) ∧ Blk (w.setCell ⟨f, i, none⟩ v) bi 4 (IsL n I) ∧
  (∃ tb fb F m, tb.length = n ∧ GrW (w.setCell ⟨f, i, none⟩ v) B gb tb fb T F m) ∧ (∀ g cur, w.heap[g]? = some (.cells cur 3 (0, 0)) → OkB X bn bl vh g → (w.setCell ⟨f, i, none⟩ v).heap[g]? = w.heap[g]? ∧ OkB X bn bl vh g) := by
 obtain ⟨tb, fb, F, m, k1, k2⟩ := h.gr
 exact ⟨h.num.far (fun e => blk_ne h.num h.box (by decide) e) _, h.low.far (fun e => blk_ne h.low h.box (by decide) e) _, h.is.far (fun e => blk_ne h.is h.box (by decide) e) _, ⟨tb, fb, F, m, k1, k2.store h.box (by decide) (by decide) (by decide) (by decide) i _⟩, fun g cur hg ho => ⟨heap_set_ne (ty_ne hg h.box (by decide)), ho⟩⟩
theorem FinV.pop {p6 : Option Addr} {c6 : Nat} {Q : List (Nat × Value)} {q : Nat × Value} {S : List (Nat × List Nat)} {x : Nat × List Nat} (h : FinV X w B f gb bn bl bi n T s I vh (.slice p6 (Q.length + 1) c6) vp (Q ++ [q]) ps) (hs : s.stack = S ++ [x]) :
  FinV X (w.setCell ⟨f, 6, none⟩ (.slice p6 Q.length c6)) B f gb bn bl bi n T { s with stack := S } I vh (.slice p6 Q.length c6) vp Q ps := by
 obtain ⟨a1, a2, a3, a4, a5⟩ := h.field 6 (.slice p6 Q.length c6)
 have hst := h.stk
 rw [show (Q ++ [q]).length = Q.length + 1 by simp] at hst
 have ht := ownsRow_take hst (Nat.le_succ Q.length)
 rw [frC_take] at ht
 have hp := h.path
 rw [hs, List.map_append, List.map_append] at hp
 have hle := h.lefts
 rw [hs, List.map_append, List.map_append] at hle
 exact ⟨h.box.set 6 _, a1, a2, a3, owns_store h.held h.box (by decide) 6 _, owns_store ht h.box (by decide) 6 _, owns_store h.par h.box (by decide) 6 _, (List.append_inj' hp rfl).1, (LiesL.init hle).kept a5, h.parts.kept a5, h.ne, a4, h.low4⟩
theorem own_same (p : Option Addr) (m k c : Nat) : (Value.slice p m c).ownBlock = (Value.slice p k c).ownBlock := by cases p <;> rfl
theorem FinV.fewer {ph : Option Addr} {ch k : Nat} {H R : List Nat} (h : FinV X w B f gb bn bl bi n T s I (.slice ph k ch) vs vp qs ps) (hk : k = s.held.length) (hs : s.held = H ++ R) :
  FinV X (w.setCell ⟨f, 4, none⟩ (.slice ph H.length ch)) B f gb bn bl bi n T { s with held := H } I (.slice ph H.length ch) vs vp qs ps := by
 obtain ⟨a1, a2, a3, a4, a5⟩ := h.field 4 (.slice ph H.length ch)
 have hst := h.held
 subst hk
 have ht := ownsRow_take hst (show H.length ≤ s.held.length by rw [hs, List.length_append]; omega)
 have e1 : (vnats s.held).take (H.length * 1) = vnats H := by
  rw [hs, Nat.mul_one]
  have e : vnats (H ++ R) = vnats H ++ vnats R := by simp [vnats]
  rw [e, ← vnats_len H, List.take_left]
 rw [e1] at ht
 have hb := own_same ph s.held.length H.length ch
 have hk2 : ∀ g cur, w.heap[g]? = some (.cells cur 3 (0, 0)) → OkB X bn bl (.slice ph s.held.length ch) g → (w.setCell ⟨f, 4, none⟩ (.slice ph H.length ch)).heap[g]? = w.heap[g]? ∧ OkB X bn bl (.slice ph H.length ch) g := fun g cur hg ho => ⟨(a5 g cur hg ho).1, ho.1, ho.2.1, by rw [← hb]; exact ho.2.2.1, ho.2.2.2⟩
 exact ⟨h.box.set 4 _, a1, a2, a3, owns_store ht h.box (by decide) 4 _, owns_store h.stk h.box (by decide) 4 _, owns_store h.par h.box (by decide) 4 _, h.path, h.lefts.kept hk2, h.parts.kept hk2, ⟨h.ne.1, by rw [← hb]; exact h.ne.2.1, by rw [← hb]; exact h.ne.2.2⟩, a4, h.low4⟩
theorem FinV.part {w' : World} (h : FinV X w B f gb bn bl bi n T s I vh vs vp qs ps) (v vp' : Value) (l : List Nat) (hl : Lies w (OkB X bn bl vh) v l) (hown : w'.ownsRow B 29 1 vp' (ps.length + 1) (ps ++ [v])) (hg : w.grownBy w' vp.ownBlock) :
  FinV X (w'.setCell ⟨f, 7, none⟩ vp') B f gb bn bl bi n T { s with parts := s.parts ++ [l] } I vh vs vp' qs (ps ++ [v]) := by
 have hbx : Blk w' f _ _ := box_grown h.box h.par (by decide) hg
 have hnu : Blk w' bn _ _ := box_grown h.num h.par (by decide) hg
 have hlo : Blk w' bl _ _ := box_grown h.low h.par (by decide) hg
 have his : Blk w' bi _ _ := box_grown h.is h.par (by decide) hg
 have hk : ∀ g cur, w.heap[g]? = some (.cells cur 3 (0, 0)) → OkB X bn bl vh g → (w'.setCell ⟨f, 7, none⟩ vp').heap[g]? = w.heap[g]? ∧ OkB X bn bl vh g := fun g cur hg2 ho => by
  have hl := (Array.getElem?_eq_some_iff.1 hg2).1
  have e1 : w'.heap[g]? = w.heap[g]? := hg.block g hl (fun e => own_ne h.par hg2 (by decide) e.symm)
  refine ⟨?_, ho⟩
  rw [← e1]
  exact heap_set_ne (ty_ne (e1.trans hg2) hbx (by decide))
 obtain ⟨tb, fb, F, m, k1, k2⟩ := h.gr
 refine ⟨hbx.set 7 _, hnu.far (fun e => blk_ne hnu hbx (by decide) e) _, hlo.far (fun e => blk_ne hlo hbx (by decide) e) _, his.far (fun e => blk_ne his hbx (by decide) e) _, owns_store (owns_other h.held h.par (by decide) hg) hbx (by decide) 7 _, owns_store (owns_other h.stk h.par (by decide) hg) hbx (by decide) 7 _, ?_, h.path, h.lefts.kept hk, (h.parts.kept hk).snoc (hl.kept hk), h.ne, ⟨tb, fb, F, m, k1, (k2.grown h.par (by decide) (by decide) (by decide) (by decide) hg).store hbx (by decide) (by decide) (by decide) (by decide) 7 _⟩, h.low4⟩
 rw [List.length_append]
 exact owns_store hown hbx (by decide) 7 _
end
end Go.Proofs.YtldcbapjiflblaaDoor
