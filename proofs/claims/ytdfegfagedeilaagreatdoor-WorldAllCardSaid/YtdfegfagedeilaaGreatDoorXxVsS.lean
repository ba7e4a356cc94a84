/-
  slices.SortFunc at a row of values that may be, and what slices.Compact makes of it: the values in order. No conditions.
-/
import Derived.Test.YtdfegfagedeilaaGreatDoorXxVsC
import Derived.Test.YtdfegfagedeilaaGreatDoorXxVsG
import Derived.Test.YtdfegfagedeilaaGreatDoorXLk
namespace Go.Proofs.YtdfegfagedeilaaGreatDoor
open Go.RowKit Go.Lib Go.Sort
abbrev OkV := { v : bZ // okV v = true }
instance : Inhabited OkV := ⟨⟨(0, 0), by decide⟩⟩
def aGd (x : OkV) : List Value := aZ x.1
def cfV (x y : OkV) : Int := bBy x.1 y.1
theorem yZ (x y : OkV) : ltOf cfV x y = ltV x.1 y.1 := by
 unfold ltOf cfV bBy
 cases ltV x.1 y.1 with
 | true => simp
 | false => cases ltV y.1 x.1 <;> simp
theorem aVv : SWO (ltOf cfV) where
 irrefl x := by rw [yZ]; exact mS _
 trans x y z h1 h2 := by rw [yZ] at *; exact uW _ _ _ h1 h2
 ntrans x y z h1 h2 := by rw [yZ] at *; exact aSd _ _ _ h1 h2
def leV (x y : OkV) : Bool := !(ltOf cfV) y x
theorem aYd (a b c : OkV) (h1 : leV a b = true) (h2 : leV b c = true) : leV a c = true := by
 unfold leV at *;simp only [Bool.not_eq_true'] at *;exact aVv.ntrans c b a h2 h1
theorem aYc (a b : OkV) : (leV a b || leV b a) = true := by
 unfold leV;simp only [yZ]
 cases h1 : ltV b.1 a.1 with
 | false => rfl
 | true =>
  cases h2 : ltV a.1 b.1 with
  | false => rfl
  | true =>
   have := uW _ _ _ h1 h2;rw [mS] at this;exact absurd this (by decide)
theorem aTq (d : List OkV) (L : List bZ) (h : ∀ y, y ∈ d.map (·.1) ↔ y ∈ L ∧ okV y = true) : compact ((d.mergeSort leV).map (·.1)) = cH L := by
 refine aAm _ L (fun y => ?_) ?_
 ·rw [← h, List.mem_map, List.mem_map];constructor
  ·rintro ⟨x, hx, e⟩;exact ⟨x, (List.mergeSort_perm d leV).mem_iff.1 hx, e⟩
  ·rintro ⟨x, hx, e⟩;exact ⟨x, (List.mergeSort_perm d leV).mem_iff.2 hx, e⟩
 ·rw [List.pairwise_map];refine (List.pairwise_mergeSort aYd aYc d).imp fun {a b} hab => ?_;unfold leV at hab;rw [yZ] at hab;simpa using hab
theorem aHt : ∀ M : List bZ, (∀ x ∈ M, okV x = true) → ∃ d : List OkV, d.map (·.1) = M
 | [], _ => ⟨[], rfl⟩
 | x :: M, h => by
  obtain ⟨d, hd⟩ := aHt M (fun y hy => h y (List.mem_cons_of_mem _ hy));exact ⟨⟨x, h x (List.mem_cons_self ..)⟩ :: d, by simp [hd]⟩
theorem aHm {w : World} {g c : Nat} {d : Array OkV} (h : kA w g c (d.map (·.1))) : HoldsK aGd 2 w g 0 d := by
 intro t ht;rw [size_flatK] at ht;rw [get_flatK _ _ _ _ ht, Nat.zero_add];have hj : t / 2 < d.size := (by omega);obtain ⟨c1, c2, f1, f2⟩ := h.cells (t / 2) (by simpa using hj);have e : (d.map (·.1))[t / 2]! = (d[t / 2]!).1 := (by simp [hj]);rw [e] at c1 c2;have hq : t % 2 = 0 ∨ t % 2 = 1 := (by omega);rcases hq with hq | hq
 ·rw [show t / 2 * 2 = t by omega] at c1 f1;rw [hq];exact ⟨c1, f1⟩
 ·rw [show t / 2 * 2 + 1 = t by omega] at c2 f2;rw [hq];exact ⟨c2, f2⟩
theorem aXg {w : World} {g n : Nat} {os : Array Obj} {cur : Array Value} {e : TypeId} {fr : Nat × Nat} (d : Array OkV) (hb : w.heap[g]? = some (.cells cur e fr)) :
  (sortWorldK aGd 2 w g 0 n d os).heap[g]? = some (.cells (putCells id 0 (flatK aGd 2 d) cur) e fr) := by
 have hg : g < w.heap.size := (Array.getElem?_eq_some_iff.1 hb).1;unfold sortWorldK putRowK;rw [Go.Sort.heap_grow_old _ _ (by simpa using hg)];simp [putRow, mapBlock, Sort.ahead, Array.getElem?_modify, hb, onCells]
theorem aJv {w : World} {g c n : Nat} {os : Array Obj} {d D : Array OkV} (h : kA w g c (d.map (·.1))) (hs : D.size = d.size) : kA (sortWorldK aGd 2 w g 0 n D os) g c (D.map (·.1)) := by
 obtain ⟨cur, hcur, hsz⟩ := h.lies;have hK := holdsK_sortWorldK_c aGd 2 w g 0 d D n os (aHm h) h.lt hs;refine ⟨⟨_, aXg D hcur, by simp [putCells, hsz]⟩, fun j hj => ?_⟩;have hj' : j < D.size := (by simpa using hj);have e : (D.map (·.1))[j]! = (D[j]!).1 := (by simp [hj']);obtain ⟨c1, f1⟩ := hK.cell (i := j) (c := 0) hj' (by omega);obtain ⟨c2, f2⟩ := hK.cell (i := j) (c := 1) hj' (by omega);rw [Nat.zero_add] at c1 f1 c2 f2;rw [e];exact ⟨c1, c2, f1, f2⟩
theorem aLq {B : Nat} {a w : World} {g n : Nat} {dk : Array OkV} {os : Array Obj} (h : Below B a w) (hg : B ≤ g) (hB : B ≤ w.heap.size) : Below B a (sortWorldK aGd 2 w g 0 n dk os) := by
 refine ⟨h.os, h.tape, h.output, Nat.le_trans h.size (size_sortWorldK_c aGd 2 w g 0 n dk os), fun k hk => ?_⟩;have hkw : k < w.heap.size := Nat.lt_of_lt_of_le hk hB;rw [← h.block k hk];have hne : g ≠ k := (by omega);unfold sortWorldK putRowK;rw [Go.Sort.heap_grow_old _ _ (by rw [size_putRow]; exact hkw)];simp only [putRow, mapBlock, Array.getElem?_modify, if_neg hne];rfl
theorem aQs : ∀ args w, (callFunc 102 args).run Tryz.prog w = .ok (.enter 102 args) w := enters_of Tryz.func102 (by kernel_rfl) rfl
theorem bAg (g c cap : Nat) (d : List OkV) (w : World) (hH : kA w g c (d.map (·.1)).toArray) (hsz : d.length ≤ 1000000) :
  Calls Tryz.prog 101 #[.slice (some ⟨g, 0, none⟩) d.length cap, .func (.func 102) #[] #[]] w fun e w' =>
   e = .returned (.tuple #[]) ∧ kA w' g c ((d.mergeSort leV).map (·.1)).toArray ∧ Below g w w' := by
 have e0 : (d.toArray.map (·.1)) = (d.map (·.1)).toArray := (by simp);have hH' : kA w g c (d.toArray.map (·.1)) := by rw [e0]; exact hH
 have h := AnyQ.slices_SortFunc_total Tryz.laysSortV 2 Tryz.isAgg57 Tryz.sizeOf57 aGd (fun _ => rfl) (fun x v hv => by simp [aGd, aZ] at hv; rcases hv with rfl | rfl <;> rfl) cfV aVv 102 #[] g 0 cap d.toArray w aQs
  (fun m os dk _ x y => (aWp x.1 y.1 x.2 y.2 _).mono fun e w' ⟨he, hg⟩ => ⟨he, hg.form⟩) (aHm hH') hH.lt (by simp; omega)
  (fun x y h1 h2 => by rw [yZ] at h1 h2; exact Subtype.ext (uV _ _ x.2 y.2 h1 h2))
 refine h.mono fun e w' ⟨he, n, os, hw0⟩ => ?_;have hw : w' = sortWorldK aGd 2 w g 0 n (d.mergeSort leV).toArray os := hw0;clear hw0;refine ⟨he, ?_, ?_⟩
 ·have := aJv (n := n) (os := os) (D := (d.mergeSort leV).toArray) hH' (by simp [List.length_mergeSort]);rw [hw];simpa using this
 ·rw [hw];exact aLq (Below.refl _ _) (Nat.le_refl _) (Nat.le_of_lt hH.lt)
theorem aXj {w : World} {g cap : Nat} {cur : Array Value} {M : List bZ} (hw : w.heap[g]? = some (.cells cur 57 (0, 0))) (hs : cur.size = cap * 2) (ht : cur.toList.take (M.length * 2) = aJ M) : kA w g (cap * 2) M.toArray := by
 refine ⟨⟨cur, hw, hs⟩, fun j hj => ?_⟩;have hj' : j < M.length := by simpa using hj
 have hg : ∀ i, i < M.length * 2 → w.cell? ⟨g, i, none⟩ = some (.int .i64 (if i % 2 = 0 then (M.getD (i / 2) (0, 0)).1 else (M.getD (i / 2) (0, 0)).2)) := fun i hi => by
  rw [cell_of_row w g i _ _ (0, 0) hw, ← pD M i hi, ← ht, List.getElem?_take_of_lt hi, Array.getElem?_toList]
 have e : M.toArray[j]! = M.getD j (0, 0) := (by simp [hj']);refine ⟨?_, ?_, frozen_of_row w g _ cur _ hw, frozen_of_row w g _ cur _ hw⟩
 ·rw [hg _ (by omega), if_pos (by omega), e, show j * 2 / 2 = j by omega]
 ·rw [hg _ (by omega), if_neg (by omega), e, show (j * 2 + 1) / 2 = j by omega]
theorem aGb (p : Option Addr) (cap : Nat) (w : World) :
  Calls Tryz.prog 104 #[.slice p 0 cap] w fun e w' => e = .returned (.slice p 0 cap) ∧ w' = w := by
 go_enter Tryz.func104, Tryz.ntmps104;(go_wp2_with fail);go_ret;exact ⟨rfl, rfl⟩
end Go.Proofs.YtdfegfagedeilaaGreatDoor
