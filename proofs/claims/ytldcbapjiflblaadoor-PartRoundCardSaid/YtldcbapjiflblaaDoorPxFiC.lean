/-
  Layer 20 (part): slices.Index, Clone and Sort at the finder's rows of numbers; the finder beside a sort. No conditions.
-/
import Derived.Test.YtldcbapjiflblaaDoorPxFiA
import Derived.Test.YtldcbapjiflblaaDoorPPf
import Derived.Shelf.Slices.Turned
import Derived.Shelf.Slices.Clone
import Derived.Shelf.Sort.Plain
import Derived.Sort.OwnSortedInts
namespace Go.Proofs.YtldcbapjiflblaaDoor
open Go.RowKit Go.Lib
def intsP (L : List Nat) : List Int := L.map fun (n : Nat) => (n : Int)
theorem vnats_ints (L : List Nat) : vnats L = (intsP L).map (Value.int .i64) := by simp [vnats, intsP, Function.comp_def]
theorem intsP_at (L : List Nat) (j : Nat) : (intsP L).getD j 0 = ((L.getD j 0 : Nat) : Int) := by
 simp only [intsP, List.getD_eq_getElem?_getD, List.getElem?_map]
 cases L[j]? <;> rfl
def sortP (L : List Nat) : List Nat := L.mergeSort fun x y => decide (x ≤ y)
theorem sortP_ints (L : List Nat) : (intsP L).mergeSort (fun x y => decide (x ≤ y)) = intsP (sortP L) := by
 unfold sortP intsP
 rw [List.map_mergeSort]
 intro a _ b _
 by_cases h : a ≤ b
 ·rw [decide_eq_true h, decide_eq_true (by omega)]
 ·rw [decide_eq_false h, decide_eq_false (by omega)]
theorem sortP_len (L : List Nat) : (sortP L).length = L.length := List.length_mergeSort ..
theorem sortP_rise (n : Nat) (L : List Nat) (hd : L.Nodup) (hn : ∀ x ∈ L, x < n) : sortP L = riseP n L := by
 have hs : (sortP L).Pairwise (fun a b => decide (a ≤ b) = true) := List.pairwise_mergeSort (fun a b c h1 h2 => by simp at *; omega) (fun a b => by simp; omega) L
 have hp : (sortP L).Perm L := List.mergeSort_perm _ _
 have hnd : (sortP L).Nodup := hp.nodup_iff.2 hd
 refine pw_ext (r := fun a b : Nat => a < b) (fun _ _ h h' => Nat.lt_asymm h h') _ _ ?_ (rise_sorted n L) fun x => ?_
 ·have h2 : (sortP L).Pairwise (fun a b => a ≠ b) := hnd
  refine (hs.and h2).imp fun {a b} h => ?_
  have h1 : a ≤ b := by simpa using h.1
  have := h.2
  omega
 ·rw [hp.mem_iff, rise_mem]
  exact ⟨fun h => ⟨hn x h, h⟩, fun h => h.2⟩
theorem split_at (L : List Nat) (a : Nat) (h : a ∈ L) : ∃ H R, L = H ++ a :: R ∧ a ∉ H := by
 induction L with
 | nil => cases h
 | cons x L ih =>
  by_cases e : x = a
  ·subst e
   exact ⟨[], L, rfl, by simp⟩
  ·obtain ⟨H, R, h1, h2⟩ := ih ((List.mem_cons.1 h).resolve_left (fun q => e q.symm))
   exact ⟨x :: H, R, by rw [h1]; rfl, by
    rw [List.mem_cons]
    rintro (q | q)
    ·exact e q.symm
    ·exact h2 q⟩
theorem indexP_any {w : World} {B g c : Nat} {H R : List Nat} {a : Nat} (h : w.ownsRow B 3 1 (.slice (some ⟨g, 0, none⟩) (H ++ a :: R).length c) (H ++ a :: R).length (vnats (H ++ a :: R))) (ha : a ∉ H) (hl : (H ++ a :: R).length ≤ 10000) :
  Calls Tryd.prog 41 #[.slice (some ⟨g, 0, none⟩) (H ++ a :: R).length c, .int .i64 (a : Nat)] w fun e w' => e = .returned (.int .i64 (H.length : Nat)) ∧ w' = w := by
 have hz : (H ++ a :: R).length = (intsP (H ++ a :: R)).length := by simp [intsP]
 have h1 := Any.slices_Index_int Tryd.laysIndexI g 0 (H ++ a :: R).length c (intsP (H ++ a :: R)) (a : Int) w (by omega) (by omega) (fun j hj => by
  rw [Nat.zero_add, h.cellAt j (by omega), vnats_at _ j (by omega), intsP_at])
 have h2 : Lib.idxOf ((intsP (H ++ a :: R)).take (H ++ a :: R).length) (a : Int) = ((H.length : Nat) : Int) := by
  rw [hz, List.take_length]
  have h3 := Lib.idxFrom_hit (a : Int) (intsP (H ++ a :: R)) H.length 0 (by rw [← hz, List.length_append, List.length_cons]; omega) (by rw [intsP_at]; simp) (fun j hj e => by
   rw [intsP_at] at e
   have e1 : (H ++ a :: R).getD j 0 = a := by omega
   rw [show (H ++ a :: R).getD j 0 = H[j] by simp [List.getD, List.getElem?_append_left hj, hj]] at e1
   exact ha (e1 ▸ List.getElem_mem hj))
  rw [Nat.zero_add] at h3
  exact h3
 rw [h2] at h1
 exact h1
theorem cloneP_any {w : World} {g o c : Nat} {C : List Nat} (hc : ∀ j, j < C.length → w.cell? ⟨g, o + j, none⟩ = some (.int .i64 ((C.getD j 0 : Nat) : Int))) (hl : C.length ≤ 10000) :
  Calls Tryd.prog 42 #[.slice (some ⟨g, o, none⟩) C.length c] w fun e w' => ∃ v', e = .returned v' ∧ w'.ownsRow w.heap.size 3 1 v' C.length (vnats C) ∧ Below w.heap.size w w' := by
 have hz : C.length = (intsP C).length := by simp [intsP]
 have h1 := Any.slices_Clone_int Tryd.laysCloneI g o C.length c (intsP C) w (by omega) (by omega) (fun j hj => by rw [hc j (by omega), intsP_at])
 refine h1.mono fun e w' ⟨v', he, hr, _, hb⟩ => ⟨v', he, ?_, hb⟩
 have e1 : ((intsP C).take C.length).map (Value.int .i64) = vnats C := by rw [hz, List.take_length, vnats_ints]
 rw [e1] at hr
 exact hr
theorem sort_any {w : World} {B g c : Nat} {C : List Nat} (h : w.ownsRow B 3 1 (.slice (some ⟨g, 0, none⟩) C.length c) C.length (vnats C)) (hl : C.length ≤ 10000) :
  Calls Tryd.prog 43 #[.slice (some ⟨g, 0, none⟩) C.length c] w fun e w' => e = .returned (.tuple #[]) ∧ w.grownBy w' (some g) ∧ w'.ownsRow B 3 1 (.slice (some ⟨g, 0, none⟩) C.length c) C.length (vnats (sortP C)) := by
 rcases h.2 with ⟨e0, -⟩ | ⟨g', cap, cur, e0, hB, hw, h1, h2, h3, h4⟩
 ·cases e0
 ·injection e0 with q1 q2 q3
  injection q1 with q1
  injection q1 with q1 _ _
  subst q1
  subst q3
  have hz : C.length = (intsP C).length := by simp [intsP]
  have hH := holds_of_blockI (ss := intsP C) hw (by rw [← hz, ← vnats_ints, ← h4, Nat.mul_one])
  have h5 := Any.slices_Sort_int Tryd.laysSortI g 0 c (intsP C) w hH (Array.getElem?_eq_some_iff.1 hw).1 (by omega)
  rw [← hz] at h5
  refine h5.mono fun e w' ⟨he, k, os, hw'⟩ => ⟨he, ?_, ?_⟩
  ·rw [hw']
   exact grownBy_sortedI _
  ·rw [sortP_ints] at hw'
   have h6 := ownsRow_sortedI (ss := intsP C) (ts := intsP (sortP C)) (n := k) (os := os) (by simp [intsP, sortP_len]) hB hw (by rw [← hz]; exact h1) h2 h3
   rw [← hz, ← vnats_ints] at h6
   rw [hw']
   exact h6
section
variable {X : Nat → Prop} {w w' : World} {B f gb bn bl bi n : Nat} {T : List (List Nat)} {s : StP} {I : List Nat} {vh vs vp : Value} {qs : List (Nat × Value)} {ps : List Value}
theorem FinV.now (h : FinV (fun _ => True) w B f gb bn bl bi n T s I vh vs vp qs ps) : FinV (fun g => g < w.heap.size) w B f gb bn bl bi n T s I vh vs vp qs ps := by
 have hk : ∀ g cur, w.heap[g]? = some (.cells cur 3 (0, 0)) → OkB (fun _ => True) bn bl vh g → w.heap[g]? = w.heap[g]? ∧ OkB (fun g => g < w.heap.size) bn bl vh g := fun g cur hg ho => ⟨rfl, ho.1, ho.2.1, ho.2.2.1, (Array.getElem?_eq_some_iff.1 hg).1⟩
 exact ⟨h.box, h.num, h.low, h.is, h.held, h.stk, h.par, h.path, h.lefts.kept hk, h.parts.kept hk, h.ne, h.gr, h.low4⟩
theorem FinV.weak (h : FinV X w B f gb bn bl bi n T s I vh vs vp qs ps) : FinV (fun _ => True) w B f gb bn bl bi n T s I vh vs vp qs ps := by
 have hk : ∀ g cur, w.heap[g]? = some (.cells cur 3 (0, 0)) → OkB X bn bl vh g → w.heap[g]? = w.heap[g]? ∧ OkB (fun _ => True) bn bl vh g := fun g cur hg ho => ⟨rfl, ho.1, ho.2.1, ho.2.2.1, trivial⟩
 exact ⟨h.box, h.num, h.low, h.is, h.held, h.stk, h.par, h.path, h.lefts.kept hk, h.parts.kept hk, h.ne, h.gr, h.low4⟩
theorem GrW.beside {tb fb : List Nat} {F : List (List Nat)} {m x : Nat} {t : TypeId} {cs : List Value} (h : GrW w B gb tb fb T F m) (hx : Blk w x t cs) (h1 : t ≠ 69) (h2 : t ≠ 70) (h3 : t ≠ 39) (h4 : t ≠ 93) (hg : w.grownBy w' (some x)) : GrW w' B gb tb fb T F m := by
 obtain ⟨vt, vf, vr, nr, xr, k1, k2, k3, k4, k5, k6, k7, k8⟩ := h
 have hs : ∀ {bs : List Nat} {U : List (List Nat)}, SetsW w bs U → SetsW w' bs U := fun {bs U} q => ⟨q.1, fun i hi => (q.2 i hi).kept hg (fun e => blk_ne (q.2 i hi).1 hx (fun r => h4 r.symm) (by injection e))⟩
 exact ⟨vt, vf, vr, nr, xr, k1.kept hg (fun e => blk_ne k1 hx (fun q => h1 q.symm) (by injection e)), row_kept k2 hx (fun q => h2 q.symm) hg, row_kept k3 hx (fun q => h2 q.symm) hg, row_kept k4 hx (fun q => h3 q.symm) hg, k5, hs k6, hs k7, k8⟩
theorem FinV.apart {N x : Nat} {cs : List Value} (h : FinV (fun g => g < N) w B f gb bn bl bi n T s I vh vs vp qs ps) (hx : Blk w x 3 cs) (hb : bn < N ∧ bl < N ∧ ∀ g, vh.ownBlock = some g → g < N) (hN : N ≤ x) (hg : w.grownBy w' (some x)) : FinV (fun g => g < N) w' B f gb bn bl bi n T s I vh vs vp qs ps := by
 have hk : ∀ g cur, w.heap[g]? = some (.cells cur 3 (0, 0)) → OkB (fun g => g < N) bn bl vh g → w'.heap[g]? = w.heap[g]? ∧ OkB (fun g => g < N) bn bl vh g := fun g cur hg2 ho => ⟨hg.block g (Array.getElem?_eq_some_iff.1 hg2).1 (fun e => by injection e with e; have := ho.2.2.2; omega), ho⟩
 obtain ⟨tb, fb, F, m, k1, k2⟩ := h.gr
 refine ⟨h.box.kept hg (fun e => blk_ne h.box hx (by decide) (by injection e)), h.num.kept hg (fun e => by injection e with e; omega), h.low.kept hg (fun e => by injection e with e; omega), h.is.kept hg (fun e => blk_ne h.is hx (by decide) (by injection e)), ?_, row_kept h.stk hx (by decide) hg, row_kept h.par hx (by decide) hg, h.path, h.lefts.kept hk, h.parts.kept hk, h.ne, ⟨tb, fb, F, m, k1, k2.beside hx (by decide) (by decide) (by decide) (by decide) hg⟩, h.low4⟩
 exact h.held.kept hg (.inr (fun e => by have := hb.2.2 x e; omega))
end
end Go.Proofs.YtldcbapjiflblaaDoor
