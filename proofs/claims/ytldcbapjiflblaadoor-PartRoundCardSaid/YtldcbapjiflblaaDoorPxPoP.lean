/-
  Slices of numbers that begin anywhere in a row, and slices of such slices: what one holds; the comparison of two, walked. No conditions.
-/
import Derived.Test.YtldcbapjiflblaaDoorPxFiE
import Derived.Test.YtldcbapjiflblaaDoorPxFiC
import Derived.Test.YtldcbapjiflblaaDoorPxRfA
namespace Go.Proofs.YtldcbapjiflblaaDoor
open Go.RowKit Go.Lib
def HasIntsO (w : World) (p : Option Addr) (L : List Int) : Prop := ∀ j, j < L.length → ∃ g o, p = some ⟨g, o, none⟩ ∧ w.cell? ⟨g, o + j, none⟩ = some (.int .i64 (L.getD j 0))
theorem HasIntsO.below {w w' : World} {p : Option Addr} {L : List Int} (h : HasIntsO w p L) (hb : Below w.heap.size w w') : HasIntsO w' p L := fun j hj => by
 obtain ⟨g, o, hp, hc⟩ := h j hj
 exact ⟨g, o, hp, cell_later hb hc⟩
theorem HasInts.anyO {w : World} {p : Option Addr} {L : List Int} (h : HasInts w p L) : HasIntsO w p L := fun j hj => by
 obtain ⟨g, hp, hc⟩ := h j hj
 exact ⟨g, 0, hp, by rw [Nat.zero_add]; exact hc⟩
def HasPs (w : World) (p : Option Addr) (P : List (List Nat)) : Prop := ∀ i, i < P.length → ∃ g pi ci, p = some ⟨g, 0, none⟩ ∧ w.cell? ⟨g, i, none⟩ = some (.slice pi (P.getD i []).length ci) ∧ HasIntsO w pi (intsP (P.getD i []))
theorem HasPs.below {w w' : World} {p : Option Addr} {P : List (List Nat)} (h : HasPs w p P) (hb : Below w.heap.size w w') : HasPs w' p P := fun j hj => by
 obtain ⟨g, pi, ci, hp, hc, hi⟩ := h j hj
 exact ⟨g, pi, ci, hp, cell_later hb hc, hi.below hb⟩
theorem intsP_len (L : List Nat) : (intsP L).length = L.length := by simp [intsP]
theorem intsP_inj {L M : List Nat} (h : intsP L = intsP M) : L = M := by
 have := congrArg (List.map Int.toNat) h
 simpa [intsP, Function.comp_def] using this
theorem Lies.ints {w : World} {ok : Nat → Prop} {v : Value} {l : List Nat} (h : Lies w ok v l) : ∃ p c, v = .slice p l.length c ∧ HasIntsO w p (intsP l) := by
 obtain ⟨p, c, e, h1, h2, h3⟩ := h
 refine ⟨p, c, e, fun j hj => ?_⟩
 rw [intsP_len] at hj
 obtain ⟨g, o, cur, k1, k2, k3, k4⟩ := h3 (fun q => by subst q; cases hj)
 refine ⟨g, o, k1, ?_⟩
 rw [cell_of_row w g _ _ _ (0, 0) k2, k4 j hj, intsP_at]
theorem mem_allB (W : List Nat) (y : Nat) : y ∈ allB W ↔ hasB W y = true := by
 rw [mem_all]
 refine ⟨fun h => h.2, fun h => ⟨?_, h⟩⟩
 unfold hasB at h
 by_cases hl : y / 64 < W.length
 ·omega
 ·rw [show W.getD (y / 64) 0 = 0 by simp [List.getD, List.getElem?_eq_none (by omega : W.length ≤ y / 64)]] at h
  simp at h
theorem edge_adj {T : List (List Nat)} {N : List EdgM} (h : ∀ x y : Nat, hasB (T.getD x []) y = decide (((x : Int), (y : Int)) ∈ intsE N)) (x y : Nat) : EdgeP (adjP T) x y ↔ EdgL N x y := by
 unfold EdgeP adjP EdgL
 rw [mem_allB, h, decide_eq_true_eq]
 unfold intsE
 rw [List.mem_map]
 constructor
 ·rintro ⟨⟨a, b⟩, hm, e⟩
  injection e with e1 e2
  obtain rfl : a = x := by exact Int.ofNat.inj e1
  obtain rfl : b = y := by exact Int.ofNat.inj e2
  exact hm
 ·intro hm
  exact ⟨_, hm, rfl⟩
theorem reach_same {E F : Nat → Nat → Prop} (h : ∀ x y, E x y ↔ F x y) : E = F := by
 funext x y
 exact propext (h x y)
theorem ok_nats {n : Nat} : ∀ {L : List EdgI}, okE n L = true → ∃ N : List EdgM, L = intsE N ∧ ∀ e ∈ N, e.1 < n ∧ e.2 < n
 | [], _ => ⟨[], rfl, fun e he => absurd he (List.not_mem_nil)⟩
 | x :: L, h => by
  unfold okE at h
  rw [List.all_cons, Bool.and_eq_true] at h
  obtain ⟨a, b, rfl, ha, hb⟩ := okG_nat h.1
  obtain ⟨N, rfl, hN⟩ := ok_nats (L := L) h.2
  refine ⟨(a, b) :: N, rfl, fun e he => ?_⟩
  rcases List.mem_cons.1 he with rfl | he
  ·exact ⟨ha, hb⟩
  ·exact hN e he
theorem edgL_lt {n : Nat} {N : List EdgM} (hN : ∀ e ∈ N, e.1 < n ∧ e.2 < n) (a b : Nat) (h : EdgL N a b) : a < n ∧ b < n := hN _ h
set_option maxRecDepth 100000 in
set_option maxHeartbeats 1000000 in
theorem sameo_at (w : World) (p q : Option Addr) (c d : Nat) (L M : List Int) (hp : HasIntsO w p L) (hq : HasIntsO w q M) (hL : L.length ≤ 4611686018427387904) :
  Calls Tryd.prog 13 #[.slice p L.length c, .slice q M.length d] w fun e w' => e = .returned (.bool (L == M)) ∧ Below w.heap.size w w' := by
 have HP := Lib.hid hp
 have HQ := Lib.hid hq
 clear hp hq
 by_cases hl : L.length = M.length
 ·obtain ⟨R, hR⟩ : ∃ R, (L == M) = R := ⟨_, rfl⟩
  rw [hR]
  have HR := Lib.hid hR
  clear hR
  go_enter Tryd.func13, Tryd.ntmps13
  go_wp2
  go_loopw [5] (fun i wr => ∃ k n : Nat, k ≤ L.length ∧ i = .int .i64 k ∧ wr = w.drewN n ∧ (L.drop k == M.drop k) = R) (fun i _ => L.length - (RowKit.intOf i).toNat)
  case atStart => exact ⟨0, 0, Nat.zero_le _, rfl, rfl, HR.out⟩
  case round =>
   obtain ⟨k, n, hk, rfl, rfl, hr⟩ := hrel
   by_cases hlt : k < L.length
   ·obtain ⟨g, o, rfl, h1⟩ := HP.out k hlt
    obtain ⟨g2, o2, rfl, h2⟩ := HQ.out k (by omega)
    have HS := Lib.hid (ints_same_step L M k R hl hlt hr)
    clear hr
    generalize L.getD k 0 = x at *
    generalize M.getD k 0 = y at *
    by_cases hxy : x = y
    ·have H1 := HS.out
     rw [if_pos hxy] at H1
     have H2 := Lib.hid H1
     subst hxy
     clear H1 HS
     go_wp2_with fail
     go_region
     go_wp2_with fail
     go_roundw
     case rel => exact ⟨k + 1, n + 1, by omega, by go_num, rfl, H2.out⟩
     case measure => simp [RowKit.intOf]; omega
    ·have H1 := HS.out
     rw [if_neg hxy] at H1
     have H2 := Lib.hid H1
     have e1 : (x != y) = true := by simpa using hxy
     clear H1 HS hxy
     go_wp2_with fail
     go_region
     go_wp2_with fail
     go_ret
     exact ⟨by rw [← H2.out]; rfl, (Go.below_drewN (Below.refl _ _) n).drew⟩
   ·have e1 : L.drop k = [] := List.drop_eq_nil_of_le (by omega)
    have e2 : M.drop k = [] := List.drop_eq_nil_of_le (by omega)
    rw [e1, e2] at hr
    have H2 := Lib.hid hr
    clear hr e1 e2
    go_wp2_with fail
    go_ret
    exact ⟨by rw [← H2.out]; rfl, Go.below_drewN (Below.refl _ _) n⟩
 ·have e : (L == M) = false := beq_eq_false_iff_ne.2 fun h => hl (congrArg List.length h)
  rw [e]
  have e1 : ((L.length : Int) != (M.length : Int)) = true := by simp; omega
  clear e hl
  go_enter Tryd.func13, Tryd.ntmps13
  go_wp2_with fail
  go_ret
  exact ⟨rfl, Below.refl _ _⟩
end Go.Proofs.YtldcbapjiflblaaDoor
