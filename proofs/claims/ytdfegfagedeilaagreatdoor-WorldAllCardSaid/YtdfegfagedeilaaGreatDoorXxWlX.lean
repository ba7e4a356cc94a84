/-
  Layer 16 (world), the document: whether two worlds are the same, walked. No conditions.
-/
import Derived.Test.YtdfegfagedeilaaGreatDoorXLj
import Derived.Maps.RangeWalk
import Derived.Lib.LazyBuf
namespace Go.Proofs.YtdfegfagedeilaaGreatDoor
open Go.RowKit Go.Lib
theorem bRq {α : Type} {L M : List α} (d : α) (hl : L.length = M.length) (h : ∀ j, j < L.length → L.getD j d = M.getD j d) : L = M := by
 apply List.ext_getElem hl;intro i h1 h2;have := h i h1;simpa [h1, h2] using this
set_option maxRecDepth 100000 in
set_option maxHeartbeats 8000000 in
theorem bRs {w : World} {u v : Value} {m m2 : bK} (hu : lI w u m) (hv : lI w v m2) (h5 : m.1.length ≤ 1000 ∧ m.2.length ≤ 1000) :
  Calls Tryz.prog 11 #[u, v] w fun e w' => e = .returned (.bool (decide (m = m2))) ∧ Below w.heap.size w w' := by
 obtain ⟨p0, c0, p1, c1, rfl, ha0, ha1, -, -⟩ := lY hu;obtain ⟨q0, d0, q1, d1, rfl, hb0, hb1, -, -⟩ := lY hv;have hal := ((Below.refl w.heap.size w).alloc (Nat.le_refl _) (.cells #[.slice p0 m.1.length c0, .slice p1 m.2.length c1] 29)).alloc (by simp) (.cells #[.slice q0 m2.1.length d0, .slice q1 m2.2.length d1] 29);have hax := (Blk.new w 29 [.slice p0 m.1.length c0, .slice p1 m.2.length c1]).alloc (.cells #[.slice q0 m2.1.length d0, .slice q1 m2.2.length d1] 29);have hbx := Blk.new (w.alloc (.cells #[.slice p0 m.1.length c0, .slice p1 m.2.length c1] 29)) 29 [.slice q0 m2.1.length d0, .slice q1 m2.2.length d1];simp only [World.size_alloc] at hbx;have HA0 := lhid (fun n (hn : n < m.1.length) => ha0 n hn);have HA1 := lhid (fun n (hn : n < m.2.length) => ha1 n hn);have HB0 := lhid (fun n (hn : n < m2.1.length) => hb0 n hn);have HB1 := lhid (fun n (hn : n < m2.2.length) => hb1 n hn)
 have HNo : Hid ((¬ m.1.length = m2.1.length ∨ ¬ m.2.length = m2.2.length ∨ (∃ n, ¬ m.1.getD n false = m2.1.getD n false) ∨ ∃ n, ¬ m.2.getD n aN = m2.2.getD n aN) → decide (m = m2) = false) := lhid (fun h => by
  refine decide_eq_false fun e => ?_;subst e
  rcases h with h | h | ⟨n, h⟩ | ⟨n, h⟩ <;> exact h rfl)
 have HYs : Hid (m.1.length = m2.1.length → m.2.length = m2.2.length → (∀ j, j < m.1.length → m.1.getD j false = m2.1.getD j false) → (∀ j, j < m.2.length → m.2.getD j aN = m2.2.getD j aN) → decide (m = m2) = true) := lhid (fun h1 h2 h3 h4 => decide_eq_true (Prod.ext (bRq false h1 h3) (bRq aN h2 h4)));have HAL := lhid hal;have HAX := lhid hax;have HBX := lhid hbx;obtain ⟨B, hB⟩ : ∃ q, decide (m = m2) = q := ⟨_, rfl⟩;rw [hB] at HNo HYs ⊢;clear hu hv ha0 ha1 hb0 hb1 hal hax hbx hB;go_enter Tryz.func11, Tryz.ntmps11;(go_upto_region 1 with fail);obtain ⟨W1, hW1⟩ : ∃ q, (w.alloc (.cells #[.slice p0 m.1.length c0, .slice p1 m.2.length c1] 29)).alloc (.cells #[.slice q0 m2.1.length d0, .slice q1 m2.2.length d1] 29) = q := ⟨_, rfl⟩;rw [hW1] at HAL HAX HBX ⊢;clear hW1;obtain ⟨ga, hga⟩ : ∃ q, w.heap.size = q := ⟨_, rfl⟩;obtain ⟨gb, hgb⟩ : ∃ q, ga + 1 = q := ⟨_, rfl⟩;(try simp only [hga, hgb]);(try simp only [hga, hgb] at HAX HBX);clear hga hgb;have x0 := HAX.out.cell 0 rfl;have x1 := HAX.out.cell 1 rfl;have y0 := HBX.out.cell 0 rfl;have y1 := HBX.out.cell 1 rfl;by_cases hl0 : m.1.length = m2.1.length
 ·have e0 : ((m.1.length : Int) != (m2.1.length : Int)) = false := (by rw [hl0]; simp);by_cases hl1 : m.2.length = m2.2.length
  ·have e1 : ((m.2.length : Int) != (m2.2.length : Int)) = false := (by rw [hl1]; simp);have HL := lhid (And.intro hl0 hl1);have HYe := lhid (HYs.out hl0 hl1);have HNe := lhid (fun h => HNo.out (.inr (.inr h)));clear hl0 hl1 HYs HNo;(go_wp2_with fail);clear x0 x1 y0 y1 e0 e1
   go_loopw [5] (fun i wr => ∃ n : Nat, n ≤ m.1.length ∧ i = .int .i64 n ∧ (∀ j, j < n → m.1.getD j false = m2.1.getD j false) ∧ Below W1.heap.size W1 wr) (fun i _ => m.1.length - (RowKit.intOf i).toNat)
   case atStart => exact ⟨0, Nat.zero_le _, rfl, fun j hj => absurd hj (Nat.not_lt_zero j), Below.refl _ _⟩
   case round =>
    obtain ⟨n, hn, rfl, hsm, hbw⟩ := hrel;have HBw := lhid hbw;have HSm := lhid hsm;have x0 := (HAX.out.later hbw).cell 0 rfl;by_cases hlt : n < m.1.length
    ·have hl2 : n < m2.1.length := (by rw [← HL.out.1]; exact hlt);obtain ⟨g1, rfl, h1⟩ := HA0.out n hlt;obtain ⟨g2, rfl, h2⟩ := HB0.out n hl2;have h1 := cell_later (aB HAL.out hbw) h1;have h2 := cell_later (aB HAL.out hbw) h2;have x0 := (HAX.out.later hbw).cell 0 rfl;have y0 := (HBX.out.later hbw).cell 0 rfl;obtain ⟨x, hx⟩ : ∃ q, m.1.getD n false = q := ⟨_, rfl⟩;obtain ⟨y, hy⟩ : ∃ q, m2.1.getD n false = q := ⟨_, rfl⟩;rw [hx] at h1;rw [hy] at h2;have HQ := lhid (And.intro hx hy);have HS : Hid (∀ w', Below wr.heap.size wr w' → w'.cell? ⟨ga, 0, none⟩ = some (.slice (some ⟨g1, 0, none⟩) m.1.length c0) ∧ w'.cell? ⟨gb, 0, none⟩ = some (.slice (some ⟨g2, 0, none⟩) m2.1.length d0) ∧ w'.cell? ⟨g1, n, none⟩ = some (.bool x) ∧ w'.cell? ⟨g2, n, none⟩ = some (.bool y) ∧ Below wr.heap.size wr w') := lhid (fun w' hb => ⟨cell_later hb x0, cell_later hb y0, cell_later hb h1, cell_later hb h2, hb⟩);clear hx hy hsm hbw h1 h2;by_cases hxy : x = y
     ·have ex : (x != y) = false := by rw [hxy]; simp
      have HN : Hid (∀ j, j < n + 1 → m.1.getD j false = m2.1.getD j false) := lhid (fun j hj => by
       by_cases e : j = n
       ·rw [e, HQ.out.1, HQ.out.2, hxy]
       ·exact HSm.out j (by omega))
      subst hxy;clear ex;(go_upto_region 6 with fail);refine wpk HS [] (by kernel_rfl) fun hB0 hS0 => ?_;refine wF 0 ?_;refine wT 1 11 hS0 ?_;refine wF 2 ?_;refine wF 3 ?_;refine wT 4 11 hS0 ?_;refine wF 5 ?_;refine wT 6 11 hS0 ?_;refine wO 7 ?_;refine wO 8 ?_;refine wO 9 ?_;refine wO 10 ?_;refine wD ?_;(go_wp2_with fail);go_roundw
      case rel => exact ⟨n + 1, by omega, by go_num, HN.out, aB HBw.out hB0⟩
      case measure => simp [RowKit.intOf]; omega
     ·have ex : (x != y) = true := (by simpa using hxy);have HF := lhid (HNe.out (.inl ⟨n, by rw [HQ.out.1, HQ.out.2]; exact hxy⟩));obtain rfl : y = !x := (by cases x <;> cases y <;> simp_all);clear hxy ex HQ;(go_upto_region 6 with fail);refine wpk HS [] (by kernel_rfl) fun hB0 hS0 => ?_;refine wF 0 ?_;refine wT 1 11 hS0 ?_;refine wF 2 ?_;refine wF 3 ?_;refine wT 4 11 hS0 ?_;refine wF 5 ?_;refine wT 6 11 hS0 ?_;refine wO 7 ?_;refine wO 8 ?_;refine wO 9 ?_;refine wO 10 ?_;refine wD ?_;(go_wp2_with fail);go_ret;exact ⟨by rw [HF.out] <;> rfl, aB HAL.out (aB HBw.out hB0)⟩
    ·have hne : n = m.1.length := (by omega);have HS0 : Hid (∀ j, j < m.1.length → m.1.getD j false = m2.1.getD j false) := lhid (by rw [← hne]; exact hsm);have hnl : ¬ (n : Int) < (m.1.length : Int) := (by omega);clear hne hsm hbw;(go_wp2_with fail);clear x0;obtain ⟨wo, rfl⟩ : ∃ q, q = wr := ⟨_, rfl⟩;have HBo := HBw;clear HBw
     go_loopw [6] (fun i wr => ∃ n : Nat, n ≤ m.2.length ∧ i = .int .i64 n ∧ (∀ j, j < n → m.2.getD j aN = m2.2.getD j aN) ∧ Below W1.heap.size W1 wr) (fun i _ => m.2.length - (RowKit.intOf i).toNat)
     case atStart => exact ⟨0, Nat.zero_le _, rfl, fun j hj => absurd hj (Nat.not_lt_zero j), HBo.out⟩
     case round =>
      obtain ⟨n, hn, rfl, hsm, hbw⟩ := hrel;have HBw := lhid hbw;have HSm := lhid hsm;by_cases hlt : n < m.2.length
      ·have hl2 : n < m2.2.length := (by rw [← HL.out.2]; exact hlt);obtain ⟨g1, rfl, h1, h3⟩ := HA1.out n hlt;obtain ⟨g2, rfl, h2, h4⟩ := HB1.out n hl2;have h1 := cell_later (aB HAL.out hbw) h1;have h2 := cell_later (aB HAL.out hbw) h2;have h3 := cell_later (aB HAL.out hbw) h3;have h4 := cell_later (aB HAL.out hbw) h4;have x1 := (HAX.out.later hbw).cell 1 rfl;have y1 := (HBX.out.later hbw).cell 1 rfl;obtain ⟨⟨x1', x2⟩, hx⟩ : ∃ q, m.2.getD n aN = q := ⟨_, rfl⟩;obtain ⟨⟨y1', y2⟩, hy⟩ : ∃ q, m2.2.getD n aN = q := ⟨_, rfl⟩;rw [hx] at h1 h3;rw [hy] at h2 h4;dsimp only at h1 h2 h3 h4;have HQ := lhid (And.intro hx hy);have HS : Hid (∀ w', Below wr.heap.size wr w' → w'.cell? ⟨ga, 1, none⟩ = some (.slice (some ⟨g1, 0, none⟩) m.2.length c1) ∧ w'.cell? ⟨gb, 1, none⟩ = some (.slice (some ⟨g2, 0, none⟩) m2.2.length d1) ∧ w'.cell? ⟨g1, n * 2, none⟩ = some (.int .i64 x1') ∧ w'.cell? ⟨g1, n * 2 + 1, none⟩ = some (.int .i64 x2) ∧ w'.cell? ⟨g2, n * 2, none⟩ = some (.int .i64 y1') ∧ w'.cell? ⟨g2, n * 2 + 1, none⟩ = some (.int .i64 y2) ∧ Below wr.heap.size wr w') := lhid (fun w' hb => ⟨cell_later hb x1, cell_later hb y1, cell_later hb h1, cell_later hb h3, cell_later hb h2, cell_later hb h4, hb⟩);clear hx hy hsm hbw h1 h2 h3 h4;by_cases hxy : (x1', x2) = ((y1', y2) : Int × Int)
       ·have e1 : x1' = y1' := congrArg Prod.fst hxy;have e2 : x2 = y2 := congrArg Prod.snd hxy
        have HN : Hid (∀ j, j < n + 1 → m.2.getD j aN = m2.2.getD j aN) := lhid (fun j hj => by
         by_cases e : j = n
         ·rw [e, HQ.out.1, HQ.out.2, hxy]
         ·exact HSm.out j (by omega))
        clear HQ hxy;subst e1;subst e2;(go_upto_region 11 with fail);refine wpk HS [] (by kernel_rfl) fun hB0 hS0 => ?_;refine wF 0 ?_;refine wT 1 11 hS0 ?_;refine wF 2 ?_;refine wF 3 ?_;refine wT 4 11 hS0 ?_;refine wF 5 ?_;refine wT 6 11 hS0 ?_;refine wO 7 ?_;refine wO 8 ?_;refine wO 9 ?_;refine wO 10 ?_;refine wD ?_;(go_wp2_with fail);go_roundw
        case rel => exact ⟨n + 1, by omega, by go_num, HN.out, aB HBw.out hB0⟩
        case measure => simp [RowKit.intOf]; omega
       ·have HF := lhid (HNe.out (.inr ⟨n, by rw [HQ.out.1, HQ.out.2]; exact hxy⟩));by_cases e1 : x1' = y1'
        ·have e2 : ¬ x2 = y2 := fun b => hxy (by rw [e1, b]);clear HQ hxy;subst e1;(go_upto_region 11 with fail);refine wpk HS [] (by kernel_rfl) fun hB0 hS0 => ?_;refine wF 0 ?_;refine wT 1 11 hS0 ?_;refine wF 2 ?_;refine wF 3 ?_;refine wT 4 11 hS0 ?_;refine wF 5 ?_;refine wT 6 11 hS0 ?_;refine wO 7 ?_;refine wO 8 ?_;refine wO 9 ?_;refine wO 10 ?_;refine wD ?_;(go_wp2_with fail);go_ret;exact ⟨by rw [HF.out] <;> rfl, aB HAL.out (aB HBw.out hB0)⟩
        ·clear HQ hxy;(go_upto_region 11 with fail);refine wpk HS [] (by kernel_rfl) fun hB0 hS0 => ?_;refine wF 0 ?_;refine wT 1 11 hS0 ?_;refine wF 2 ?_;refine wF 3 ?_;refine wT 4 11 hS0 ?_;refine wF 5 ?_;refine wT 6 11 hS0 ?_;refine wO 7 ?_;refine wO 8 ?_;refine wO 9 ?_;refine wO 10 ?_;refine wD ?_;(go_wp2_with fail);go_ret;exact ⟨by rw [HF.out] <;> rfl, aB HAL.out (aB HBw.out hB0)⟩
      ·have hne : n = m.2.length := (by omega);have HF := lhid (HYe.out HS0.out (by rw [← hne]; exact hsm));have hnl2 : ¬ (n : Int) < (m.2.length : Int) := (by omega);have x1 := (HAX.out.later hbw).cell 1 rfl;clear hne hsm hbw;(go_wp2_with fail);go_ret;exact ⟨by rw [HF.out] <;> rfl, aB HAL.out HBw.out⟩
  ·have e1 : ((m.2.length : Int) != (m2.2.length : Int)) = true := by
    rw [bne_iff_ne];omega
   have HF := lhid (HNo.out (.inr (.inl hl1)));clear hl0 hl1 HYs HNo;(go_wp2_with fail);go_ret;exact ⟨by rw [HF.out] <;> rfl, HAL.out⟩
 ·have e0 : ((m.1.length : Int) != (m2.1.length : Int)) = true := by
   rw [bne_iff_ne];omega
  have HF := lhid (HNo.out (.inl hl0));clear hl0 HYs HNo;(go_wp2_with fail);go_ret;exact ⟨by rw [HF.out] <;> rfl, HAL.out⟩
end Go.Proofs.YtdfegfagedeilaaGreatDoor
