/-
  Slices of numbers: what one holds, and the walk of the comparison of two. No conditions.
-/
import Derived.Test.YthalbcmlehpfaaaDoorTexts
import Derived.Test.YthalbcmlehpfaaaDoorIntA
import Derived.Laws.OwnMore
namespace Go.Proofs.YthalbcmlehpfaaaDoor
open Go.RowKit

/-- A slice's cells hold these numbers. -/
def HasInts (w : World) (p : Option Addr) (L : List Int) : Prop := ∀ j, j < L.length → ∃ g, p = some ⟨g, 0, none⟩ ∧ w.cell? ⟨g, j, none⟩ = some (.int .i64 (L.getD j 0))
theorem HasInts.below {w w' : World} {p : Option Addr} {L : List Int} (h : HasInts w p L) (hb : Below w.heap.size w w') : HasInts w' p L := fun j hj => by
  obtain ⟨g, hp, hc⟩ := h j hj
  exact ⟨g, hp, cell_later hb hc⟩
/-- A slice of these numbers. -/
def IntsS (w : World) (v : Value) (L : List Int) : Prop := ∃ p cap, v = .slice p L.length cap ∧ HasInts w p L
theorem IntsS.below {w w' : World} {v : Value} {L : List Int} (h : IntsS w v L) (hb : Below w.heap.size w w') : IntsS w' v L := by
  obtain ⟨p, cap, hv, ht⟩ := h
  exact ⟨p, cap, hv, ht.below hb⟩
theorem ints_none (w : World) : IntsS w (.slice none 0 0) [] := ⟨none, 0, rfl, fun j hj => absurd hj (Nat.not_lt_zero j)⟩
/-- Numbers as cells. -/
def vints (L : List Int) : List Value := L.map fun n => .int .i64 n
theorem vints_snoc (L : List Int) (n : Int) : vints L ++ [.int .i64 n] = vints (L ++ [n]) := by simp [vints]
theorem vints_set (L : List Int) (j : Nat) (n : Int) : (vints L).set j (.int .i64 n) = vints (L.set j n) := by simp [vints, List.map_set]
theorem own_intsI {w : World} {B : Nat} {e : TypeId} {v : Value} {L : List Int} (h : w.ownsRow B e 1 v L.length (vints L)) : IntsS w v L := by
  obtain ⟨-, ⟨h0, hn⟩ | ⟨g, cap, cur, hv, -, hw, -, -, -, ht⟩⟩ := h
  · have : L = [] := List.eq_nil_of_length_eq_zero hn
    subst this h0
    exact ints_none w
  · refine ⟨_, cap, hv, fun j hj => ⟨g, rfl, ?_⟩⟩
    have h1 := congrArg (fun x : List Value => x[j]?) ht
    simp only [Nat.mul_one, List.getElem?_take, hj, if_true, Array.getElem?_toList] at h1
    rw [cell_of_row w g j _ _ (0, 0) hw, h1]
    simp [vints, hj]
theorem info_i64 : (Tryd.prog.info? 3).map (fun i => (i.zero, i.size, i.bytes)) = some (some (.int .i64 0), 1, 8) := by kernel_rfl
theorem ints_same_step (L M : List Int) (i : Nat) (R : Bool) (hl : L.length = M.length) (hi : i < L.length) (h : (L.drop i == M.drop i) = R) : (if L.getD i 0 = M.getD i 0 then (L.drop (i + 1) == M.drop (i + 1)) else false) = R := by
  have e1 : L.drop i = L.getD i 0 :: L.drop (i + 1) := by
    rw [List.drop_eq_getElem_cons hi]
    simp [hi]
  have e2 : M.drop i = M.getD i 0 :: M.drop (i + 1) := by
    rw [List.drop_eq_getElem_cons (by omega)]
    simp [hl ▸ hi]
  rw [e1, e2] at h
  rw [← h]
  by_cases hc : L.getD i 0 = M.getD i 0
  · rw [if_pos hc, hc]
    simp
  · rw [if_neg hc]
    exact (beq_eq_false_iff_ne.2 fun e => hc (List.cons.inj e).1).symm

set_option maxRecDepth 100000 in
set_option maxHeartbeats 1000000 in
theorem sameints_at (w : World) (p q : Option Addr) (c d : Nat) (L M : List Int) (hp : HasInts w p L) (hq : HasInts w q M) (hL : L.length ≤ 4611686018427387904) :
    Calls Tryd.prog 14 #[.slice p L.length c, .slice q M.length d] w fun e w' => e = .returned (.bool (L == M)) ∧ Below w.heap.size w w' := by
  have HP := Lib.hid hp
  have HQ := Lib.hid hq
  clear hp hq
  by_cases hl : L.length = M.length
  · obtain ⟨R, hR⟩ : ∃ R, (L == M) = R := ⟨_, rfl⟩
    rw [hR]
    have HR := Lib.hid hR
    clear hR
    go_enter Tryd.func14, Tryd.ntmps14
    go_wp2
    go_loopw [5] (fun i wr => ∃ k n : Nat, k ≤ L.length ∧ i = .int .i64 k ∧ wr = w.drewN n ∧ (L.drop k == M.drop k) = R) (fun i _ => L.length - (RowKit.intOf i).toNat)
    case atStart => exact ⟨0, 0, Nat.zero_le _, rfl, rfl, HR.out⟩
    case round =>
      obtain ⟨k, n, hk, rfl, rfl, hr⟩ := hrel
      by_cases hlt : k < L.length
      · obtain ⟨g, rfl, h1⟩ := HP.out k hlt
        obtain ⟨g2, rfl, h2⟩ := HQ.out k (by omega)
        have HS := Lib.hid (ints_same_step L M k R hl hlt hr)
        clear hr
        generalize L.getD k 0 = x at *
        generalize M.getD k 0 = y at *
        by_cases hxy : x = y
        · have H1 := HS.out
          rw [if_pos hxy] at H1
          have H2 := Lib.hid H1
          subst hxy
          clear H1 HS
          go_wp2_with fail
          go_region
          go_wp2_with fail
          go_roundw
          case rel => exact ⟨k + 1, n + 1, by omega, by go_num, rfl, H2.out⟩
          case measure => simp [RowKit.intOf]; omega
        · have H1 := HS.out
          rw [if_neg hxy] at H1
          have H2 := Lib.hid H1
          have e1 : (x != y) = true := by simpa using hxy
          clear H1 HS hxy
          go_wp2_with fail
          go_region
          go_wp2_with fail
          go_ret
          exact ⟨by rw [← H2.out]; rfl, (below_drewN (Below.refl _ _) n).drew⟩
      · have e1 : L.drop k = [] := List.drop_eq_nil_of_le (by omega)
        have e2 : M.drop k = [] := List.drop_eq_nil_of_le (by omega)
        rw [e1, e2] at hr
        have H2 := Lib.hid hr
        clear hr e1 e2
        go_wp2_with fail
        go_ret
        exact ⟨by rw [← H2.out]; rfl, below_drewN (Below.refl _ _) n⟩
  · have e : (L == M) = false := beq_eq_false_iff_ne.2 fun h => hl (congrArg List.length h)
    rw [e]
    have e1 : ((L.length : Int) != (M.length : Int)) = true := by simp; omega
    clear e hl
    go_enter Tryd.func14, Tryd.ntmps14
    go_wp2_with fail
    go_ret
    exact ⟨rfl, Below.refl _ _⟩
theorem sameints_any (w : World) (v v' : Value) (L M : List Int) (hv : IntsS w v L) (hv' : IntsS w v' M) (hL : L.length ≤ 4611686018427387904) :
    Calls Tryd.prog 14 #[v, v'] w fun e w' => e = .returned (.bool (L == M)) ∧ Below w.heap.size w w' := by
  obtain ⟨p, c, rfl, hp⟩ := hv
  obtain ⟨q, d, rfl, hq⟩ := hv'
  exact sameints_at w p q c d L M hp hq hL
end Go.Proofs.YthalbcmlehpfaaaDoor
