/-
  Slices of texts: what one holds, and the walk of the comparison of two. No conditions.
-/
import Derived.Test.YtphhgdgamnogpaaDoorBase
import Derived.WalkKit
import Derived.Laws.AppendOwn
namespace Go.Proofs.YtphhgdgamnogpaaDoor
open Go.RowKit

/-- A slice's cells hold these texts. -/
def HasTexts (w : World) (p : Option Addr) (L : List (List UInt8)) : Prop := ∀ j, j < L.length → ∃ g, p = some ⟨g, 0, none⟩ ∧ w.cell? ⟨g, j, none⟩ = some (.string (bs (L.getD j [])))
theorem HasTexts.below {w w' : World} {p : Option Addr} {L : List (List UInt8)} (h : HasTexts w p L) (hb : Below w.heap.size w w') : HasTexts w' p L := fun j hj => by
  obtain ⟨g, hp, hc⟩ := h j hj
  exact ⟨g, hp, cell_later hb hc⟩
/-- A slice of these texts. -/
def Texts (w : World) (v : Value) (L : List (List UInt8)) : Prop := ∃ p cap, v = .slice p L.length cap ∧ HasTexts w p L
theorem Texts.below {w w' : World} {v : Value} {L : List (List UInt8)} (h : Texts w v L) (hb : Below w.heap.size w w') : Texts w' v L := by
  obtain ⟨p, cap, hv, ht⟩ := h
  exact ⟨p, cap, hv, ht.below hb⟩
theorem texts_none (w : World) : Texts w (.slice none 0 0) [] := ⟨none, 0, rfl, fun j hj => absurd hj (Nat.not_lt_zero j)⟩

/-- Texts as cells. -/
def strs (L : List (List UInt8)) : List Value := L.map fun l => .string (bs l)
theorem strs_snoc (L : List (List UInt8)) (l : List UInt8) : strs L ++ [.string (bs l)] = strs (L ++ [l]) := by simp [strs]
/-- A slice of texts that lies in a row of its own. -/
theorem own_texts {w : World} {B : Nat} {e : TypeId} {v : Value} {L : List (List UInt8)} (h : w.ownsRow B e 1 v L.length (strs L)) : Texts w v L := by
  obtain ⟨-, ⟨h0, hn⟩ | ⟨g, cap, cur, hv, -, hw, -, -, -, ht⟩⟩ := h
  · have : L = [] := List.eq_nil_of_length_eq_zero hn
    subst this h0
    exact texts_none w
  · refine ⟨_, cap, hv, fun j hj => ⟨g, rfl, ?_⟩⟩
    have h1 := congrArg (fun x : List Value => x[j]?) ht
    simp only [Nat.mul_one, List.getElem?_take, hj, if_true, Array.getElem?_toList] at h1
    rw [cell_of_row w g j _ _ (0, 0) hw, h1]
    simp [strs, hj]
theorem info_str : (Tryd.prog.info? 9).map (fun i => (i.zero, i.size, i.bytes)) = some (some (.string ByteArray.empty), 1, 16) := by kernel_rfl

theorem list_same_step (L M : List (List UInt8)) (i : Nat) (R : Bool) (hl : L.length = M.length) (hi : i < L.length) (h : (L.drop i == M.drop i) = R) : (if L.getD i [] = M.getD i [] then (L.drop (i + 1) == M.drop (i + 1)) else false) = R := by
  have e1 : L.drop i = L.getD i [] :: L.drop (i + 1) := by
    rw [List.drop_eq_getElem_cons hi]
    simp [hi]
  have e2 : M.drop i = M.getD i [] :: M.drop (i + 1) := by
    rw [List.drop_eq_getElem_cons (by omega)]
    simp [hl ▸ hi]
  rw [e1, e2] at h
  rw [← h]
  by_cases hc : L.getD i [] = M.getD i []
  · rw [if_pos hc, hc]
    simp
  · rw [if_neg hc]
    exact (beq_eq_false_iff_ne.2 fun e => hc (List.cons.inj e).1).symm

set_option maxRecDepth 100000 in
set_option maxHeartbeats 1000000 in
theorem sametexts_at (w : World) (p q : Option Addr) (c d : Nat) (L M : List (List UInt8)) (hp : HasTexts w p L) (hq : HasTexts w q M) (hL : L.length ≤ 4611686018427387904) :
    Calls Tryd.prog 44 #[.slice p L.length c, .slice q M.length d] w fun e w' => e = .returned (.bool (L == M)) ∧ Below w.heap.size w w' := by
  have HP := Lib.hid hp
  have HQ := Lib.hid hq
  clear hp hq
  by_cases hl : L.length = M.length
  · obtain ⟨R, hR⟩ : ∃ R, (L == M) = R := ⟨_, rfl⟩
    rw [hR]
    have HR := Lib.hid hR
    clear hR
    go_enter Tryd.func44, Tryd.ntmps44
    go_wp2
    go_loopw [5] (fun i wr => ∃ k n : Nat, k ≤ L.length ∧ i = .int .i64 k ∧ wr = w.drewN n ∧ (L.drop k == M.drop k) = R) (fun i _ => L.length - (RowKit.intOf i).toNat)
    case atStart => exact ⟨0, 0, Nat.zero_le _, rfl, rfl, HR.out⟩
    case round =>
      obtain ⟨k, n, hk, rfl, rfl, hr⟩ := hrel
      by_cases hlt : k < L.length
      · obtain ⟨g, rfl, h1⟩ := HP.out k hlt
        obtain ⟨g2, rfl, h2⟩ := HQ.out k (by omega)
        have HS := Lib.hid (list_same_step L M k R hl hlt hr)
        clear hr
        generalize L.getD k [] = x at *
        generalize M.getD k [] = y at *
        by_cases hxy : x = y
        · have H1 := HS.out
          rw [if_pos hxy] at H1
          have H2 := Lib.hid H1
          subst hxy
          clear H1 HS
          go_wp2_with fail
          go_region
          go_wp2_with fail
          go_roundw
          case rel => exact ⟨k + 1, n + 1, by omega, by go_num, rfl, H2.out⟩
          case measure => simp [RowKit.intOf]; omega
        · have H1 := HS.out
          rw [if_neg hxy] at H1
          have H2 := Lib.hid H1
          have e1 : (x == y) = false := beq_eq_false_iff_ne.2 hxy
          clear H1 HS hxy
          go_wp2_with fail
          go_region
          go_wp2_with fail
          go_ret
          exact ⟨by rw [← H2.out]; rfl, (below_drewN (Below.refl _ _) n).drew⟩
      · have e1 : L.drop k = [] := List.drop_eq_nil_of_le (by omega)
        have e2 : M.drop k = [] := List.drop_eq_nil_of_le (by omega)
        rw [e1, e2] at hr
        have H2 := Lib.hid hr
        clear hr e1 e2
        go_wp2_with fail
        go_ret
        exact ⟨by rw [← H2.out]; rfl, below_drewN (Below.refl _ _) n⟩
  · have e : (L == M) = false := beq_eq_false_iff_ne.2 fun h => hl (congrArg List.length h)
    rw [e]
    have e1 : ((L.length : Int) != (M.length : Int)) = true := by simp; omega
    clear e hl
    go_enter Tryd.func44, Tryd.ntmps44
    go_wp2_with fail
    go_ret
    exact ⟨rfl, Below.refl _ _⟩
theorem sametexts_any (w : World) (v v' : Value) (L M : List (List UInt8)) (hv : Texts w v L) (hv' : Texts w v' M) (hL : L.length ≤ 4611686018427387904) :
    Calls Tryd.prog 44 #[v, v'] w fun e w' => e = .returned (.bool (L == M)) ∧ Below w.heap.size w w' := by
  obtain ⟨p, c, rfl, hp⟩ := hv
  obtain ⟨q, d, rfl, hq⟩ := hv'
  exact sametexts_at w p q c d L M hp hq hL
end Go.Proofs.YtphhgdgamnogpaaDoor
