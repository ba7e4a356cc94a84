/-
  Layer 20 (part): the finder in memory; what keeps it. No conditions.
-/
import Derived.Test.YtldcbapjiflblaaDoorPxGrA
import Derived.Test.YtldcbapjiflblaaDoorPPe
namespace Go.Proofs.YtldcbapjiflblaaDoor
open Go.RowKit Go.Lib
def NumL (n : Nat) (f : Nat → Nat) : List Nat := (List.range n).map f
theorem numL_len (n : Nat) (f : Nat → Nat) : (NumL n f).length = n := by simp [NumL]
theorem numL_at {n i : Nat} (f : Nat → Nat) (h : i < n) : (NumL n f).getD i 0 = f i := by simp [NumL, h]
theorem numL_set {n a : Nat} (f : Nat → Nat) (v : Nat) : (NumL n f).set a v = NumL n (updP f a v) := by
 apply List.ext_getElem
 ·simp [NumL]
 ·intro i h1 h2
  rw [List.getElem_set]
  by_cases e : a = i
  ·subst e
   simp [NumL, updP_same]
  ·rw [if_neg e]
   simp only [NumL, List.getElem_map, List.getElem_range]
   rw [updP_other f (fun q => e q.symm)]
def IsL (n : Nat) (H : List Nat) : List Value := (List.range n).map fun x => .bool (decide (x ∈ H))
theorem isL_at {n i : Nat} (H : List Nat) (h : i < n) : (IsL n H)[i]? = some (.bool (decide (i ∈ H))) := by simp [IsL, h]
theorem isL_in {n a : Nat} (H : List Nat) : (IsL n H).set a (.bool true) = IsL n (H ++ [a]) := by
 apply List.ext_getElem
 ·simp [IsL]
 ·intro i h1 h2
  rw [List.getElem_set]
  by_cases e : a = i
  ·subst e
   simp [IsL]
  ·rw [if_neg e]
   simp only [IsL, List.getElem_map, List.getElem_range]
   congr 1
   have e2 : ¬ i = a := fun q => e q.symm
   simp [e2]
def Lies (w : World) (ok : Nat → Prop) (v : Value) (l : List Nat) : Prop := ∃ p c, v = .slice p l.length c ∧ l.length ≤ c ∧ c ≤ maxLen ∧ (l ≠ [] → ∃ g o cur, p = some ⟨g, o, none⟩ ∧ w.heap[g]? = some (.cells cur 3 (0, 0)) ∧ ok g ∧ ∀ j, j < l.length → cur[o + j]? = some (.int .i64 ((l.getD j 0 : Nat) : Int)))
theorem Lies.kept {w w' : World} {ok ok' : Nat → Prop} {v : Value} {l : List Nat} (h : Lies w ok v l) (hk : ∀ g cur, w.heap[g]? = some (.cells cur 3 (0, 0)) → ok g → w'.heap[g]? = w.heap[g]? ∧ ok' g) : Lies w' ok' v l := by
 obtain ⟨p, c, e, h1, h2, h3⟩ := h
 refine ⟨p, c, e, h1, h2, fun hl => ?_⟩
 obtain ⟨g, o, cur, k1, k2, k3, k4⟩ := h3 hl
 obtain ⟨m1, m2⟩ := hk g cur k2 k3
 exact ⟨g, o, cur, k1, m1.trans k2, m2, k4⟩
def LiesL (w : World) (ok : Nat → Prop) (vs : List Value) (Ls : List (List Nat)) : Prop := vs.length = Ls.length ∧ ∀ i, i < Ls.length → Lies w ok (vs.getD i (.slice none 0 0)) (Ls.getD i [])
theorem LiesL.kept {w w' : World} {ok ok' : Nat → Prop} {vs : List Value} {Ls : List (List Nat)} (h : LiesL w ok vs Ls) (hk : ∀ g cur, w.heap[g]? = some (.cells cur 3 (0, 0)) → ok g → w'.heap[g]? = w.heap[g]? ∧ ok' g) : LiesL w' ok' vs Ls := ⟨h.1, fun i hi => (h.2 i hi).kept hk⟩
theorem LiesL.snoc {w : World} {ok : Nat → Prop} {vs : List Value} {Ls : List (List Nat)} {v : Value} {l : List Nat} (h : LiesL w ok vs Ls) (k : Lies w ok v l) : LiesL w ok (vs ++ [v]) (Ls ++ [l]) := by
 refine ⟨by rw [List.length_append, List.length_append, h.1]; rfl, fun i hi => ?_⟩
 by_cases e : i < Ls.length
 ·rw [show (vs ++ [v]).getD i (.slice none 0 0) = vs.getD i (.slice none 0 0) by simp [List.getD, List.getElem?_append_left (by rw [h.1]; exact e : i < vs.length)], show (Ls ++ [l]).getD i [] = Ls.getD i [] by simp [List.getD, List.getElem?_append_left e]]
  exact h.2 i e
 ·have e2 : i = Ls.length := by
   rw [List.length_append] at hi
   simp at hi
   omega
  subst e2
  rw [show (vs ++ [v]).getD Ls.length (.slice none 0 0) = v by simp [List.getD, ← h.1], show (Ls ++ [l]).getD Ls.length [] = l by simp [List.getD]]
  exact k
def OkB (X : Nat → Prop) (bn bl : Nat) (vh : Value) (g : Nat) : Prop := g ≠ bn ∧ g ≠ bl ∧ vh.ownBlock ≠ some g ∧ X g
def frC (qs : List (Nat × Value)) : List Value := qs.flatMap fun q => [.int .i64 (q.1 : Int), q.2]
theorem frC_len (qs : List (Nat × Value)) : (frC qs).length = qs.length * 2 := by
 induction qs with
 | nil => rfl
 | cons q r ih =>
  have e : frC (q :: r) = .int .i64 (q.1 : Int) :: q.2 :: frC r := rfl
  rw [e, List.length_cons, List.length_cons, ih, List.length_cons]
  omega
theorem frC_snoc (qs : List (Nat × Value)) (a : Nat) (v : Value) : frC qs ++ [.int .i64 (a : Int), v] = frC (qs ++ [(a, v)]) := by simp [frC]
structure FinV X (w : World) (B f gb bn bl bi n : Nat) (T : List (List Nat)) (s : StP) (I : List Nat) (vh vs vp : Value) (qs : List (Nat × Value)) (ps : List Value) : Prop where
 box : Blk w f 47 [.pointer (some ⟨gb, 0, none⟩), .slice (some ⟨bn, 0, none⟩) n n, .slice (some ⟨bl, 0, none⟩) n n, .int .i64 (s.count : Int), vh, .slice (some ⟨bi, 0, none⟩) n n, vs, vp]
 num : Blk w bn 3 (vnats (NumL n s.num))
 low : Blk w bl 3 (vnats (NumL n s.low))
 is : Blk w bi 4 (IsL n I)
 held : w.ownsRow B 3 1 vh s.held.length (vnats s.held)
 stk : w.ownsRow B 61 2 vs qs.length (frC qs)
 par : w.ownsRow B 29 1 vp ps.length ps
 path : qs.map (·.1) = s.stack.map (·.1)
 lefts : LiesL w (OkB X bn bl vh) (qs.map (·.2)) (s.stack.map (·.2))
 parts : LiesL w (OkB X bn bl vh) ps s.parts
 ne : bn ≠ bl ∧ vh.ownBlock ≠ some bn ∧ vh.ownBlock ≠ some bl
 gr : ∃ tb fb F m, tb.length = n ∧ GrW w B gb tb fb T F m
 low4 : B ≤ f ∧ B ≤ bn ∧ B ≤ bl ∧ B ≤ bi
def FinW (w : World) (B f gb bn bl bi n : Nat) (T : List (List Nat)) (s : StP) : Prop := ∃ vh vs vp qs ps, FinV (fun _ => True) w B f gb bn bl bi n T s s.held vh vs vp qs ps
theorem row_kept {w w' : World} {base size n x : Nat} {e t : TypeId} {v : Value} {xs cs : List Value} (h : w.ownsRow base e size v n xs) (hx : Blk w x t cs) (hne : e ≠ t) (hg : w.grownBy w' (some x)) : w'.ownsRow base e size v n xs := by
 refine owns_beside h hg fun k hk he => ?_
 injection he with he
 subst he
 rcases h.2 with ⟨rfl, -⟩ | ⟨g, cap, cur, rfl, -, hw, -⟩
 ·cases hk
 ·have e1 : g = x := by simpa [Value.ownBlock] using hk
  subst e1
  have hs' : w.heap[g]? = some (.cells cs.toArray t (0, 0)) := hx
  rw [hw] at hs'
  injection hs' with hs'
  injection hs' with _ hs'
  exact hne hs'
theorem GrW.store {w : World} {B gb x : Nat} {tb fb : List Nat} {T F : List (List Nat)} {m : Nat} {t : TypeId} {cs : List Value} (h : GrW w B gb tb fb T F m) (hx : Blk w x t cs) (h1 : t ≠ 69) (h2 : t ≠ 70) (h3 : t ≠ 39) (h4 : t ≠ 93) (i : Nat) (u : Value) : GrW (w.setCell ⟨x, i, none⟩ u) B gb tb fb T F m := by
 obtain ⟨vt, vf, vr, nr, xr, k1, k2, k3, k4, k5, k6, k7, k8⟩ := h
 exact ⟨vt, vf, vr, nr, xr, k1.far (fun e => blk_ne k1 hx (fun q => h1 q.symm) e) u, owns_store k2 hx (fun q => h2 q.symm) i u, owns_store k3 hx (fun q => h2 q.symm) i u, owns_store k4 hx (fun q => h3 q.symm) i u, k5, k6.store hx h4 i u, k7.store hx h4 i u, k8⟩
theorem GrW.grown {w w' : World} {B gb base size n : Nat} {tb fb : List Nat} {T F : List (List Nat)} {m : Nat} {e : TypeId} {v : Value} {xs : List Value} (h : GrW w B gb tb fb T F m) (hr : w.ownsRow base e size v n xs) (h1 : e ≠ 69) (h2 : e ≠ 70) (h3 : e ≠ 39) (h4 : e ≠ 93) (hg : w.grownBy w' v.ownBlock) : GrW w' B gb tb fb T F m := by
 obtain ⟨vt, vf, vr, nr, xr, k1, k2, k3, k4, k5, k6, k7, k8⟩ := h
 exact ⟨vt, vf, vr, nr, xr, box_grown k1 hr h1 hg, owns_other k2 hr (fun q => h2 q.symm) hg, owns_other k3 hr (fun q => h2 q.symm) hg, owns_other k4 hr (fun q => h3 q.symm) hg, k5, k6.grown hr h4 hg, k7.grown hr h4 hg, k8⟩
theorem grown_cellP (w : World) (x i : Nat) (u : Value) : w.grownBy (w.setCell ⟨x, i, none⟩ u) (some x) := ⟨rfl, rfl, rfl, by simp, fun k hk hne => Below.heap_setCell _ _ _ _ (fun e => hne (congrArg some e))⟩
theorem heap_set_ne {w : World} {x g i : Nat} {u : Value} (h : g ≠ x) : (w.setCell ⟨x, i, none⟩ u).heap[g]? = w.heap[g]? := Below.heap_setCell _ _ _ _ h
theorem ty_ne {w : World} {g x : Nat} {cur : Array Value} {t e : TypeId} {cs : List Value} (h : w.heap[g]? = some (.cells cur e (0, 0))) (hx : Blk w x t cs) (hne : e ≠ t) : g ≠ x := fun q => by
 subst q
 have hs' : w.heap[g]? = some (.cells cs.toArray t (0, 0)) := hx
 rw [h] at hs'
 injection hs' with hs'
 injection hs' with _ hs'
 exact hne hs'
theorem own_ne {w : World} {base size n k : Nat} {e : TypeId} {v : Value} {xs : List Value} (h : w.ownsRow base e size v n xs) {cur : Array Value} {t : TypeId} (hk : w.heap[k]? = some (.cells cur t (0, 0))) (hne : e ≠ t) : v.ownBlock ≠ some k := fun q => by
 rcases h.2 with ⟨rfl, -⟩ | ⟨g, cap, cur', rfl, -, hw, -⟩
 ·cases q
 ·have e1 : g = k := by simpa [Value.ownBlock] using q
  subst e1
  rw [hw] at hk
  injection hk with hk
  injection hk with _ hk
  exact hne hk
theorem FinV.later {X : Nat → Prop} {w w' : World} {B f gb bn bl bi n : Nat} {T : List (List Nat)} {s : StP} {I : List Nat} {vh vs vp : Value} {qs : List (Nat × Value)} {ps : List Value} (h : FinV X w B f gb bn bl bi n T s I vh vs vp qs ps) (hb : Below w.heap.size w w') : FinV X w' B f gb bn bl bi n T s I vh vs vp qs ps := by
 have hk : ∀ g cur, w.heap[g]? = some (.cells cur 3 (0, 0)) → OkB X bn bl vh g → w'.heap[g]? = w.heap[g]? ∧ OkB X bn bl vh g := fun g cur hg ho => ⟨hb.block g (Array.getElem?_eq_some_iff.1 hg).1, ho⟩
 obtain ⟨tb, fb, F, m, k1, k2⟩ := h.gr
 exact ⟨h.box.later hb, h.num.later hb, h.low.later hb, h.is.later hb, owns_later h.held hb, owns_later h.stk hb, owns_later h.par hb, h.path, h.lefts.kept hk, h.parts.kept hk, h.ne, ⟨tb, fb, F, m, k1, k2.later hb⟩, h.low4⟩
theorem FinV.count {X : Nat → Prop} {w : World} {B f gb bn bl bi n : Nat} {T : List (List Nat)} {s : StP} {I : List Nat} {vh vs vp : Value} {qs : List (Nat × Value)} {ps : List Value} (h : FinV X w B f gb bn bl bi n T s I vh vs vp qs ps) (c : Nat) : FinV X (w.setCell ⟨f, 3, none⟩ (.int .i64 (c : Int))) B f gb bn bl bi n T { s with count := c } I vh vs vp qs ps := by
 have hk : ∀ g cur, w.heap[g]? = some (.cells cur 3 (0, 0)) → OkB X bn bl vh g → (w.setCell ⟨f, 3, none⟩ (.int .i64 (c : Int))).heap[g]? = w.heap[g]? ∧ OkB X bn bl vh g := fun g cur hg ho => ⟨heap_set_ne (ty_ne hg h.box (by decide)), ho⟩
 obtain ⟨tb, fb, F, m, k1, k2⟩ := h.gr
 exact ⟨h.box.set 3 _, h.num.far (fun e => blk_ne h.num h.box (by decide) e) _, h.low.far (fun e => blk_ne h.low h.box (by decide) e) _, h.is.far (fun e => blk_ne h.is h.box (by decide) e) _, owns_store h.held h.box (by decide) 3 _, owns_store h.stk h.box (by decide) 3 _, owns_store h.par h.box (by decide) 3 _, h.path, h.lefts.kept hk, h.parts.kept hk, h.ne, ⟨tb, fb, F, m, k1, k2.store h.box (by decide) (by decide) (by decide) (by decide) 3 _⟩, h.low4⟩
theorem FinV.setNum {X : Nat → Prop} {w : World} {B f gb bn bl bi n : Nat} {T : List (List Nat)} {s : StP} {I : List Nat} {vh vs vp : Value} {qs : List (Nat × Value)} {ps : List Value} (h : FinV X w B f gb bn bl bi n T s I vh vs vp qs ps) (a c : Nat) : FinV X (w.setCell ⟨bn, a, none⟩ (.int .i64 (c : Int))) B f gb bn bl bi n T { s with num := updP s.num a c } I vh vs vp qs ps := by
 have hk : ∀ g cur, w.heap[g]? = some (.cells cur 3 (0, 0)) → OkB X bn bl vh g → (w.setCell ⟨bn, a, none⟩ (.int .i64 (c : Int))).heap[g]? = w.heap[g]? ∧ OkB X bn bl vh g := fun g cur hg ho => ⟨heap_set_ne ho.1, ho⟩
 obtain ⟨tb, fb, F, m, k1, k2⟩ := h.gr
 refine ⟨h.box.far (fun e => blk_ne h.box h.num (by decide) e) _, ?_, h.low.far (fun e => h.ne.1 e.symm) _, h.is.far (fun e => blk_ne h.is h.num (by decide) e) _, ?_, owns_store h.stk h.num (by decide) a _, owns_store h.par h.num (by decide) a _, h.path, h.lefts.kept hk, h.parts.kept hk, h.ne, ⟨tb, fb, F, m, k1, k2.store h.num (by decide) (by decide) (by decide) (by decide) a _⟩, h.low4⟩
 ·show Blk _ bn _ (vnats (NumL n (updP s.num a c)))
  rw [← numL_set s.num c, ← vnats_set]
  exact h.num.set a _
 ·exact h.held.kept (grown_cellP w bn a _) (.inr h.ne.2.1)
theorem FinV.setLow {X : Nat → Prop} {w : World} {B f gb bn bl bi n : Nat} {T : List (List Nat)} {s : StP} {I : List Nat} {vh vs vp : Value} {qs : List (Nat × Value)} {ps : List Value} (h : FinV X w B f gb bn bl bi n T s I vh vs vp qs ps) (a c : Nat) : FinV X (w.setCell ⟨bl, a, none⟩ (.int .i64 (c : Int))) B f gb bn bl bi n T { s with low := updP s.low a c } I vh vs vp qs ps := by
 have hk : ∀ g cur, w.heap[g]? = some (.cells cur 3 (0, 0)) → OkB X bn bl vh g → (w.setCell ⟨bl, a, none⟩ (.int .i64 (c : Int))).heap[g]? = w.heap[g]? ∧ OkB X bn bl vh g := fun g cur hg ho => ⟨heap_set_ne ho.2.1, ho⟩
 obtain ⟨tb, fb, F, m, k1, k2⟩ := h.gr
 refine ⟨h.box.far (fun e => blk_ne h.box h.low (by decide) e) _, h.num.far (fun e => h.ne.1 e) _, ?_, h.is.far (fun e => blk_ne h.is h.low (by decide) e) _, ?_, owns_store h.stk h.low (by decide) a _, owns_store h.par h.low (by decide) a _, h.path, h.lefts.kept hk, h.parts.kept hk, h.ne, ⟨tb, fb, F, m, k1, k2.store h.low (by decide) (by decide) (by decide) (by decide) a _⟩, h.low4⟩
 ·show Blk _ bl _ (vnats (NumL n (updP s.low a c)))
  rw [← numL_set s.low c, ← vnats_set]
  exact h.low.set a _
 ·exact h.held.kept (grown_cellP w bl a _) (.inr h.ne.2.2)
theorem FinV.setIs {X : Nat → Prop} {w : World} {B f gb bn bl bi n : Nat} {T : List (List Nat)} {s : StP} {I : List Nat} {vh vs vp : Value} {qs : List (Nat × Value)} {ps : List Value} (h : FinV X w B f gb bn bl bi n T s I vh vs vp qs ps) (a : Nat) (b : Bool) (J : List Nat) (hJ : (IsL n I).set a (.bool b) = IsL n J) : FinV X (w.setCell ⟨bi, a, none⟩ (.bool b)) B f gb bn bl bi n T s J vh vs vp qs ps := by
 have hk : ∀ g cur, w.heap[g]? = some (.cells cur 3 (0, 0)) → OkB X bn bl vh g → (w.setCell ⟨bi, a, none⟩ (.bool b)).heap[g]? = w.heap[g]? ∧ OkB X bn bl vh g := fun g cur hg ho => ⟨heap_set_ne (ty_ne hg h.is (by decide)), ho⟩
 obtain ⟨tb, fb, F, m, k1, k2⟩ := h.gr
 refine ⟨h.box.far (fun e => blk_ne h.box h.is (by decide) e) _, h.num.far (fun e => blk_ne h.num h.is (by decide) e) _, h.low.far (fun e => blk_ne h.low h.is (by decide) e) _, ?_, owns_store h.held h.is (by decide) a _, owns_store h.stk h.is (by decide) a _, owns_store h.par h.is (by decide) a _, h.path, h.lefts.kept hk, h.parts.kept hk, h.ne, ⟨tb, fb, F, m, k1, k2.store h.is (by decide) (by decide) (by decide) (by decide) a _⟩, h.low4⟩
 rw [← hJ]
 exact h.is.set a _
theorem FinV.more {X : Nat → Prop} {w w' : World} {B f gb bn bl bi n : Nat} {T : List (List Nat)} {s : StP} {I : List Nat} {vh vs vp : Value} {qs : List (Nat × Value)} {ps : List Value} (h : FinV X w B f gb bn bl bi n T s I vh vs vp qs ps) (a : Nat) (vh' : Value) (hown : w'.ownsRow B 3 1 vh' (s.held.length + 1) (vnats s.held ++ [.int .i64 (a : Int)])) (hg : w.grownBy w' vh.ownBlock) (hat : vh'.ownBlock = vh.ownBlock ∨ vh'.ownBlock = some w.heap.size) :
  FinV X (w'.setCell ⟨f, 4, none⟩ vh') B f gb bn bl bi n T { s with held := s.held ++ [a] } I vh' vs vp qs ps := by
 have hbx : Blk w' f _ _ := box_grown h.box h.held (by decide) hg
 have hnu : Blk w' bn _ _ := h.num.kept hg (fun e => h.ne.2.1 e.symm)
 have hlo : Blk w' bl _ _ := h.low.kept hg (fun e => h.ne.2.2 e.symm)
 have hne : ∀ g, g < w.heap.size → vh.ownBlock ≠ some g → vh'.ownBlock ≠ some g := fun g h1 h2 e => by
  rcases hat with q | q
  ·exact h2 (q ▸ e)
  ·rw [q] at e
   injection e with e
   omega
 have hk : ∀ g cur, w.heap[g]? = some (.cells cur 3 (0, 0)) → OkB X bn bl vh g → (w'.setCell ⟨f, 4, none⟩ vh').heap[g]? = w.heap[g]? ∧ OkB X bn bl vh' g := fun g cur hg2 ho => by
  have hl := (Array.getElem?_eq_some_iff.1 hg2).1
  have e1 : w'.heap[g]? = w.heap[g]? := hg.block g hl (fun e => ho.2.2.1 e.symm)
  refine ⟨?_, ho.1, ho.2.1, hne g hl ho.2.2.1, ho.2.2.2⟩
  rw [← e1]
  exact heap_set_ne (ty_ne (e1.trans hg2) hbx (by decide))
 obtain ⟨tb, fb, F, m, k1, k2⟩ := h.gr
 refine ⟨hbx.set 4 _, hnu.far (fun e => blk_ne hnu hbx (by decide) e) _, hlo.far (fun e => blk_ne hlo hbx (by decide) e) _, (box_grown h.is h.held (by decide) hg).far (fun e => blk_ne (box_grown h.is h.held (by decide) hg) hbx (by decide) e) _, ?_, owns_store (owns_other h.stk h.held (by decide) hg) hbx (by decide) 4 _, owns_store (owns_other h.par h.held (by decide) hg) hbx (by decide) 4 _, h.path, h.lefts.kept hk, h.parts.kept hk, ⟨h.ne.1, hne _ h.num.lt h.ne.2.1, hne _ h.low.lt h.ne.2.2⟩, ⟨tb, fb, F, m, k1, (k2.grown h.held (by decide) (by decide) (by decide) (by decide) hg).store hbx (by decide) (by decide) (by decide) (by decide) 4 _⟩, h.low4⟩
 show World.ownsRow _ B _ 1 vh' (s.held ++ [a]).length (vnats (s.held ++ [a]))
 rw [List.length_append, ← vnats_snoc]
 exact owns_store hown hbx (by decide) 4 _
theorem FinV.push {X : Nat → Prop} {w w' : World} {B f gb bn bl bi n : Nat} {T : List (List Nat)} {s : StP} {I : List Nat} {vh vs vp : Value} {qs : List (Nat × Value)} {ps : List Value} (h : FinV X w B f gb bn bl bi n T s I vh vs vp qs ps) (a : Nat) (v vs' : Value) (l : List Nat) (hl : Lies w (OkB X bn bl vh) v l) (hown : w'.ownsRow B 61 2 vs' (qs.length + 1) (frC qs ++ [.int .i64 (a : Int), v])) (hg : w.grownBy w' vs.ownBlock) :
  FinV X (w'.setCell ⟨f, 6, none⟩ vs') B f gb bn bl bi n T { s with stack := s.stack ++ [(a, l)] } I vh vs' vp (qs ++ [(a, v)]) ps := by
 have hbx : Blk w' f _ _ := box_grown h.box h.stk (by decide) hg
 have hnu : Blk w' bn _ _ := box_grown h.num h.stk (by decide) hg
 have hlo : Blk w' bl _ _ := box_grown h.low h.stk (by decide) hg
 have his : Blk w' bi _ _ := box_grown h.is h.stk (by decide) hg
 have hk : ∀ g cur, w.heap[g]? = some (.cells cur 3 (0, 0)) → OkB X bn bl vh g → (w'.setCell ⟨f, 6, none⟩ vs').heap[g]? = w.heap[g]? ∧ OkB X bn bl vh g := fun g cur hg2 ho => by
  have hl := (Array.getElem?_eq_some_iff.1 hg2).1
  have e1 : w'.heap[g]? = w.heap[g]? := hg.block g hl (fun e => own_ne h.stk hg2 (by decide) e.symm)
  refine ⟨?_, ho⟩
  rw [← e1]
  exact heap_set_ne (ty_ne (e1.trans hg2) hbx (by decide))
 obtain ⟨tb, fb, F, m, k1, k2⟩ := h.gr
 refine ⟨hbx.set 6 _, hnu.far (fun e => blk_ne hnu hbx (by decide) e) _, hlo.far (fun e => blk_ne hlo hbx (by decide) e) _, his.far (fun e => blk_ne his hbx (by decide) e) _, owns_store (owns_other h.held h.stk (by decide) hg) hbx (by decide) 6 _, ?_, owns_store (owns_other h.par h.stk (by decide) hg) hbx (by decide) 6 _, ?_, ?_, h.parts.kept hk, h.ne, ⟨tb, fb, F, m, k1, (k2.grown h.stk (by decide) (by decide) (by decide) (by decide) hg).store hbx (by decide) (by decide) (by decide) (by decide) 6 _⟩, h.low4⟩
 ·rw [List.length_append, ← frC_snoc]
  exact owns_store hown hbx (by decide) 6 _
 ·show (qs ++ [(a, v)]).map (·.1) = (s.stack ++ [(a, l)]).map (·.1)
  rw [List.map_append, List.map_append, h.path]
  rfl
 ·show LiesL _ _ ((qs ++ [(a, v)]).map (·.2)) ((s.stack ++ [(a, l)]).map (·.2))
  rw [List.map_append, List.map_append]
  exact (h.lefts.kept hk).snoc (hl.kept hk)
end Go.Proofs.YtldcbapjiflblaaDoor
