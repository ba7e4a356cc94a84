/-
  slices.SortFunc at a row of slices of numbers, by their first numbers. No conditions.
-/
import Derived.Test.YtldcbapjiflblaaDoorPxPoP
namespace Go.Proofs.YtldcbapjiflblaaDoor
open Go.RowKit Go.Lib Go.Sort
def clampP (m i : Nat) : Nat := min i (m - 1)
theorem clamp_at {m i : Nat} (h : i < m) : clampP m i = i := by unfold clampP; omega
theorem clamp_lt {m : Nat} (h : 0 < m) (i : Nat) : clampP m i < m := by unfold clampP; omega
def encP (ps : List Value) (i : Nat) : Value := ps.getD (clampP ps.length i) (.slice none 0 0)
def headP (Ls : List (List Nat)) (i : Nat) : Nat := (Ls.getD (clampP Ls.length i) []).headD 0
def cfP (Ls : List (List Nat)) (i j : Nat) : Int := (headP Ls i : Int) - (headP Ls j : Int)
theorem lt_cfP (Ls : List (List Nat)) (i j : Nat) : ltOf (cfP Ls) i j = decide (headP Ls i < headP Ls j) := by
 unfold ltOf cfP
 by_cases h : headP Ls i < headP Ls j
 ·rw [decide_eq_true h, decide_eq_true (by omega)]
 ·rw [decide_eq_false h, decide_eq_false (by omega)]
theorem swo_cfP (Ls : List (List Nat)) : SWO (ltOf (cfP Ls)) where
 irrefl x := by rw [lt_cfP]; simp
 trans x y z h1 h2 := by rw [lt_cfP, decide_eq_true_eq] at *; omega
 ntrans x y z h1 h2 := by rw [lt_cfP, decide_eq_false_iff_not] at *; omega
set_option maxRecDepth 100000 in
set_option maxHeartbeats 4000000 in
theorem cmpP_any (w : World) (ga oa ka ca gb ob kb cb : Nat) (x y : Nat) (h1 : w.cell? ⟨ga, oa, none⟩ = some (.int .i64 (x : Int))) (h2 : w.cell? ⟨gb, ob, none⟩ = some (.int .i64 (y : Int))) (hx : x ≤ 10000) (hy : y ≤ 10000) :
  Calls Tryd.prog 19 #[.slice (some ⟨ga, oa, none⟩) (ka + 1) ca, .slice (some ⟨gb, ob, none⟩) (kb + 1) cb] w fun e w' => e = .returned (.int .i64 ((x : Int) - (y : Int))) ∧ w' = w.drewN 1 := by
 have e1 : IntKind.i64.wrap ((x : Int) - (y : Int)) = (x : Int) - (y : Int) := by rw [IntKind.wrap_i64]; omega
 go_enter Tryd.func19, Tryd.ntmps19
 go_wp2_with fail
 go_region
 go_wp2_with fail
 go_ret
 exact ⟨rfl, rfl⟩
section
variable {α : Type} [Inhabited α]
theorem grownBy_sortP {enc : α → Value} {w : World} {g n : Nat} {os : Array Obj} (d : Array α) : w.grownBy (sortWorld enc w g 0 n d os) (some g) := by
 unfold sortWorld
 refine ⟨rfl, rfl, rfl, by simp, fun k hk hne => ?_⟩
 rw [heap_grow_old _ _ (by simpa using hk)]
 have : g ≠ k := fun e => hne (by rw [e])
 simp [putRow, mapBlock, Sort.ahead, Array.getElem?_modify, this]
theorem cell_sortP {enc : α → Value} {w : World} {g n k o : Nat} {os : Array Obj} {cur : Array Value} {e : TypeId} {v : Value} (d : Array α) (hk : w.heap[k]? = some (.cells cur e (0, 0))) (hne : k ≠ g) (hv : cur[o]? = some v) : (sortWorld enc w g 0 n d os).cell? ⟨k, o, none⟩ = some v := by
 have h1 := (grownBy_sortP (enc := enc) (w := w) (g := g) (n := n) (os := os) d).block k (Array.getElem?_eq_some_iff.1 hk).1 (fun e => by injection e with e; exact hne e)
 rw [cell_of_row _ k o _ _ (0, 0) (h1.trans hk)]
 exact hv
end
theorem getD_map_range {β : Type} (L : List β) (d : β) : (List.range L.length).map (fun i => L.getD (clampP L.length i) d) = L := by
 apply List.ext_getElem
 ·simp
 ·intro i h1 h2
  have hi : i < L.length := h2
  simp [clamp_at hi, hi]
set_option maxRecDepth 100000 in
set_option maxHeartbeats 4000000 in
theorem sortps_any {w : World} {B g c : Nat} {ok : Nat → Prop} {ps : List Value} {Ls : List (List Nat)} (h : w.ownsRow B 29 1 (.slice (some ⟨g, 0, none⟩) ps.length c) ps.length ps) (hL : LiesL w ok ps Ls) (hne : ∀ L ∈ Ls, L ≠ []) (hs : ∀ L ∈ Ls, ∀ x ∈ L, x ≤ 10000) (h0 : 0 < ps.length) (hl : ps.length ≤ 100000) :
  Calls Tryd.prog 18 #[.slice (some ⟨g, 0, none⟩) ps.length c, .func (.func 19) #[] #[]] w fun e w' =>
   e = .returned (.tuple #[]) ∧ w.grownBy w' (some g) ∧ ∃ P : List (List Nat), P.Perm Ls ∧ P.Pairwise (fun L M => L.headD 0 ≤ M.headD 0) ∧ HasPs w' (some ⟨g, 0, none⟩) P := by
 have hlen := hL.1
 obtain ⟨cur, hw⟩ : ∃ cur, w.heap[g]? = some (.cells cur 29 (0, 0)) := by
  rcases h.2 with ⟨e0, -⟩ | ⟨g', cap, cur, e0, hB, hw, h1, h2, h3, h4⟩
  ·cases e0
  ·injection e0 with q1 q2 q3
   injection q1 with q1
   injection q1 with q1 _ _
   subst q1
   exact ⟨cur, hw⟩
 have hg : g < w.heap.size := (Array.getElem?_eq_some_iff.1 hw).1
 have hD : Holds (encP ps) w g 0 (List.range ps.length).toArray := by
  intro j hj
  have hj' : j < ps.length := by simpa using hj
  refine ⟨?_, frozen_of_row w g _ cur _ hw⟩
  have e1 : ((List.range ps.length).toArray)[j]! = j := by simp [hj']
  rw [e1, Nat.zero_add, h.cellAt j (by omega)]
  unfold encP
  rw [clamp_at hj']
  simp [hj']
 -- an element: where it lies, and its first number
 have hel : ∀ i, ∃ k o cur2 l cc, encP ps i = .slice (some ⟨k, o, none⟩) (Ls.getD (clampP Ls.length i) []).length cc ∧ (Ls.getD (clampP Ls.length i) []).length = l + 1 ∧ w.heap[k]? = some (.cells cur2 3 (0, 0)) ∧ k ≠ g ∧ headP Ls i ≤ 10000 ∧ cur2[o]? = some (.int .i64 (headP Ls i : Int)) ∧ ∀ j, j < (Ls.getD (clampP Ls.length i) []).length → cur2[o + j]? = some (.int .i64 (((Ls.getD (clampP Ls.length i) []).getD j 0 : Nat) : Int)) := by
  intro i
  have hc := clamp_lt (by omega : 0 < Ls.length) i
  obtain ⟨p, cc, e, -, -, h3⟩ := hL.2 (clampP Ls.length i) hc
  have hm : Ls.getD (clampP Ls.length i) [] ∈ Ls := by
   rw [show Ls.getD (clampP Ls.length i) [] = Ls[clampP Ls.length i] by simp [hc]]
   exact List.getElem_mem hc
  have hn := hne _ hm
  obtain ⟨k, o, cur2, rfl, k2, -, k4⟩ := h3 hn
  have hx := hs _ hm
  obtain ⟨a, t, hat⟩ : ∃ a t, Ls.getD (clampP Ls.length i) [] = a :: t := List.exists_cons_of_ne_nil hn
  have hh : headP Ls i = a := by unfold headP; rw [hat]; rfl
  refine ⟨k, o, cur2, t.length, cc, ?_, by rw [hat]; rfl, k2, fun q => ?_, by rw [hh]; exact hx a (by rw [hat]; simp), ?_, k4⟩
  ·unfold encP
   rw [hlen]
   exact e
  ·subst q
   rw [hw] at k2
   injection k2 with k2
   injection k2 with _ k2
   exact absurd k2 (by decide)
  ·have h5 := k4 0 (by rw [hat]; simp)
   rw [hat] at h5
   rw [hh]
   simpa using h5
 have hsz : ((List.range ps.length).toArray).size = ps.length := by simp
 have H := Any.slices_SortFunc Tryd.laysSortP (encP ps) (fun x => by obtain ⟨k, o, cur2, l, cc, e, -⟩ := hel x; rw [e]; rfl) (cfP Ls) (swo_cfP Ls) 19 #[] g 0 c (List.range ps.length).toArray w
  (enters_of Tryd.func19 (by kernel_rfl) rfl)
  (CmpReads.lays fun m os dk _ x y => by
   obtain ⟨k, o, cur2, l, cc, e, e2, k2, k3, k4, k5, -⟩ := hel x
   obtain ⟨k', o', cur2', l', cc', e', e2', k2', k3', k4', k5', -⟩ := hel y
   rw [e, e', e2, e2']
   refine (cmpP_any _ k o l cc k' o' l' cc' (headP Ls x) (headP Ls y) (cell_sortP dk k2 k3 k5) (cell_sortP dk k2' k3' k5') k4 k4').mono ?_
   rintro e w' ⟨rfl, rfl⟩
   exact ⟨rfl, 1, rfl⟩)
  hD hg (by rw [hsz]; omega)
 rw [hsz] at H
 refine H.mono fun e w' ⟨he, d', n, os, hp, hso, hw'⟩ => ⟨he, by rw [hw']; exact grownBy_sortP d', d'.toList.map (fun i => Ls.getD (clampP Ls.length i) []), ?_, ?_, ?_⟩
 ·have h1 : d'.toList.Perm (List.range ps.length) := by
   obtain ⟨hs1, -, h3⟩ := hp
   have q1 : d'.extract 0 ps.length = d' := by
    rw [show ps.length = d'.size by rw [hs1, hsz]]
    exact Array.extract_size
   have q2 : ((List.range ps.length).toArray).extract 0 ps.length = (List.range ps.length).toArray := by
    have := @Array.extract_size _ (List.range ps.length).toArray
    rwa [hsz] at this
   rw [q1, q2] at h3
   exact h3
  have h2 := h1.map (fun i => Ls.getD (clampP Ls.length i) [])
  rw [hlen, getD_map_range] at h2
  exact h2
 ·have hs1 : d'.size = ps.length := by rw [hp.1, hsz]
  rw [List.pairwise_iff_getElem]
  intro i j hi hj hij
  have hi' : i < d'.size := by simpa using hi
  have hj' : j < d'.size := by simpa using hj
  have h5 := hso i j (Nat.zero_le _) hij (by omega)
  rw [lt_cfP, decide_eq_false_iff_not] at h5
  have e1 : d'[i]! = d'[i] := by simp [hi']
  have e2 : d'[j]! = d'[j] := by simp [hj']
  rw [e1, e2] at h5
  simp only [List.getElem_map, Array.getElem_toList]
  unfold headP at h5
  omega
 ·have hs1 : d'.size = ps.length := by rw [hp.1, hsz]
  have hK := holds_sortWorld (encP ps) w g 0 n _ d' os hg hD (by rw [hs1, hsz])
  intro i hi
  have hi' : i < d'.size := by simpa using hi
  have hx : (d'.toList.map (fun i => Ls.getD (clampP Ls.length i) [])).getD i [] = Ls.getD (clampP Ls.length d'[i]) [] := by simp [hi']
  obtain ⟨k, o, cur2, l, cc, e, e2, k2, k3, k4, k5, k6⟩ := hel d'[i]
  refine ⟨g, some ⟨k, o, none⟩, cc, rfl, ?_, fun j hj => ⟨k, o, rfl, ?_⟩⟩
  ·have h6 := (hK i hi').1
   rw [show d'[i]! = d'[i] by simp [hi'], Nat.zero_add, e] at h6
   rw [hw', hx]
   exact h6
  ·rw [intsP_len] at hj
   rw [hx] at hj ⊢
   rw [hw', intsP_at]
   exact cell_sortP d' k2 k3 (k6 j hj)
end Go.Proofs.YtldcbapjiflblaaDoor
