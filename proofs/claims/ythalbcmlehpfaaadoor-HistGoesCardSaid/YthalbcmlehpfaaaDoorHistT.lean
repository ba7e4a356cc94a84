/-
  The statement HistGoes of layer 11 (hist), walked. No conditions but that unicode/utf8's two tables are as their initialisers lay them.
-/
import Derived.Test.YthalbcmlehpfaaaDoorHistO
namespace Go.Proofs.YthalbcmlehpfaaaDoor
open Go.RowKit Go.Lib

theorem ahead_iff (h : HistM) (a b : Int) : aheadH h a b = true ↔ mayH h = true ∧ 0 ≤ a ∧ a < b ∧ b < (h.2.2.length : Int) ∧ (h.2.2.getD a.toNat noTxn).1 = (h.2.2.getD b.toNat noTxn).1 := by
  unfold aheadH
  simp only [Bool.and_eq_true, decide_eq_true_eq, beq_iff_eq]
theorem ahead_no (h : HistM) (a b : Int) (hm : mayH h = false) : aheadH h a b = false := by unfold aheadH; rw [hm]; rfl
theorem ahead_asym (h : HistM) (a b : Int) (h1 : aheadH h a b = true) : aheadH h b a = false := by
  rw [Bool.eq_false_iff]
  intro h2
  rw [ahead_iff] at h1 h2
  omega
theorem ahead_trans (h : HistM) (a b c : Int) (h1 : aheadH h a b = true) (h2 : aheadH h b c = true) : aheadH h a c = true := by
  rw [ahead_iff] at *
  obtain ⟨a1, a2, a3, a4, a5⟩ := h1
  obtain ⟨b1, b2, b3, b4, b5⟩ := h2
  exact ⟨a1, a2, by omega, b4, a5.trans b5⟩
theorem idxs_mem (p : TxnM → Bool) (L : List TxnM) (n : Nat) (x : Int) (h : x ∈ idxs p L n) : 0 ≤ x ∧ x < (n : Int) ∧ p (L.getD x.toNat noTxn) = true := by
  unfold idxs at h
  obtain ⟨i, hi, rfl⟩ := List.mem_map.1 h
  obtain ⟨h1, h2⟩ := List.mem_filter.1 hi
  have := List.mem_range.1 h1
  exact ⟨by omega, by omega, by simpa using h2⟩
theorem idxs_sorted (p : TxnM → Bool) (L : List TxnM) (n : Nat) : (idxs p L n).Pairwise (· < ·) := by
  unfold idxs
  rw [List.pairwise_map]
  exact ((List.pairwise_lt_range).filter _).imp fun {a b} h => by omega
theorem getDI_at (l : List Int) (i : Nat) (h : i < l.length) : l.getD i 0 = l[i] := by simp [h]
/-- Of a session's transactions each is ahead of the next one. -/
theorem sess_ahead (h : HistM) (s : Int) (hm : mayH h = true) (i : Nat) (hi : i + 1 < (whereL (sessP s) h).length) : aheadH h ((whereL (sessP s) h).getD i 0) ((whereL (sessP s) h).getD (i + 1) 0) = true := by
  rw [whereL_yes _ hm] at *
  rw [getDI_at _ i (by omega), getDI_at _ (i + 1) hi, ahead_iff]
  have m1 := idxs_mem _ _ _ _ (List.getElem_mem (show i < (idxs (sessP s) h.2.2 h.2.2.length).length by omega))
  have m2 := idxs_mem _ _ _ _ (List.getElem_mem hi)
  have hp := List.pairwise_iff_getElem.1 (idxs_sorted (sessP s) h.2.2 h.2.2.length) i (i + 1) (by omega) hi (by omega)
  refine ⟨hm, m1.1, hp, m2.2.1, ?_⟩
  have e1 := m1.2.2
  have e2 := m2.2.2
  simp only [sessP, beq_iff_eq] at e1 e2
  rw [e1, e2]
def sumS (f : Nat → Nat) : Nat → Nat
  | 0 => 0
  | s + 1 => sumS f s + f s
theorem sumS_zero (f : Nat → Nat) (h : ∀ s, f s = 0) : ∀ S, sumS f S = 0
  | 0 => rfl
  | S + 1 => by rw [sumS, sumS_zero f h S, h S]
theorem sumS_one (f g : Nat → Nat) (t : Int) (h : ∀ s, f s = g s + if t = (s : Int) then 1 else 0) : ∀ S, sumS f S = sumS g S + if 0 ≤ t ∧ t < (S : Int) then 1 else 0
  | 0 => by simp [sumS]
  | S + 1 => by
    rw [sumS, sumS, sumS_one f g t h S, h S]
    by_cases e : t = (S : Int)
    · rw [if_pos e, if_neg (by omega), if_pos (by omega)]
      omega
    · rw [if_neg e]
      by_cases e2 : 0 ≤ t ∧ t < (S : Int)
      · rw [if_pos e2, if_pos (by omega)]; omega
      · rw [if_neg e2, if_neg (by omega)]; omega
theorem sess_sum (L : List TxnM) (S : Nat) (hs : ∀ t ∈ L, 0 ≤ t.1 ∧ t.1 < (S : Int)) : ∀ n, n ≤ L.length → sumS (fun s => (idxs (sessP (s : Int)) L n).length) S = n
  | 0, _ => sumS_zero _ (fun s => by simp [idxs]) S
  | n + 1, hn => by
    have ih := sess_sum L S hs n (by omega)
    have hm : L.getD n noTxn ∈ L := by
      have : L.getD n noTxn = L[n] := by simp [show n < L.length by omega]
      rw [this]
      exact List.getElem_mem (by omega)
    rw [sumS_one _ (fun s => (idxs (sessP (s : Int)) L n).length) (L.getD n noTxn).1 (fun s => by
      rw [idxs_next]
      by_cases e : sessP (s : Int) (L.getD n noTxn) = true
      · have e' : (L.getD n noTxn).1 = (s : Int) := by simpa [sessP] using e
        rw [if_pos e, if_pos e', List.length_append]
        rfl
      · have e' : ¬ (L.getD n noTxn).1 = (s : Int) := by simpa [sessP] using e
        rw [if_neg e, if_neg e', Nat.add_zero]) S, ih, if_pos (hs _ hm)]
theorem sess_total (h : HistM) (hm : mayH h = true) : sumS (fun s => (whereL (sessP (s : Int)) h).length) h.1.length = h.2.2.length := by
  have e : (fun s : Nat => (whereL (sessP (s : Int)) h).length) = fun s : Nat => (idxs (sessP (s : Int)) h.2.2 h.2.2.length).length := by
    funext s
    rw [whereL_yes _ hm]
  rw [e]
  refine sess_sum h.2.2 h.1.length (fun t ht => ?_) _ (Nat.le_refl _)
  unfold mayH at hm
  simp only [Bool.and_eq_true] at hm
  have := List.all_eq_true.1 hm.2.1 t ht
  simp only [okTxn, inside, Bool.and_eq_true, decide_eq_true_eq] at this
  exact this.1
theorem sumS_le (f : Nat → Nat) (S : Nat) : ∀ k, k ≤ S → sumS f k ≤ sumS f S := by
  induction S with
  | zero =>
    intro k hk
    obtain rfl : k = 0 := by omega
    exact Nat.le_refl _
  | succ S ih =>
    intro k hk
    by_cases h : k ≤ S
    · exact Nat.le_trans (ih k h) (by rw [sumS]; omega)
    · obtain rfl : k = S + 1 := by omega
      exact Nat.le_refl _
set_option maxRecDepth 100000 in
set_option maxHeartbeats 4000000 in
theorem histgoes_any (v : Value) (hM : HistM) (a b c : Int) (w : World) (hv : HistA w v hM) (hT : Lib.Utf8Tabs 0 1 w) :
    Calls Tryd.prog 5 #[v, .int .i64 a, .int .i64 b, .int .i64 c] w fun e w' => e = .returned (.bool true) ∧ Below w.heap.size w w' := by
  have b0 : ∀ x0 x1 x2, Blk (w.alloc (.cells #[x0, x1, x2] 25)) w.heap.size 25 [x0, x1, x2] := fun x0 x1 x2 => Blk.new w _ [x0, x1, x2]
  have hb0 : ∀ o, Below w.heap.size w (w.alloc o) := fun o => (Below.refl _ w).alloc (Nat.le_refl _) o
  have HA0 := Lib.hid hv
  obtain ⟨v0, v1, v2, rfl, ⟨p0, c0, rfl, -⟩, ⟨p1, c1, rfl, -⟩, ⟨p2, c2, rfl, -⟩⟩ := hv
  have HB0 := Lib.hid hb0
  have HBx := Lib.hid (b0 (.slice p0 hM.1.length c0) (.slice p1 hM.2.1.length c1) (.slice p2 hM.2.2.length c2))
  have B0 := Lib.hid (b0 (.slice p0 hM.1.length c0) (.slice p1 hM.2.1.length c1) (.slice p2 hM.2.2.length c2))
  have y0 := B0.out.cell 0 rfl
  have y1 := B0.out.cell 1 rfl
  have y2 := B0.out.cell 2 rfl
  have HT := Lib.hid hT
  have HMo := Lib.hid (few_modst hM)
  clear b0 hb0 hT
  go_enter Tryd.func5, Tryd.ntmps5
  go_wp2_with fail
  refine (works11_any _ (Utf8Tabs_below HT.out (HB0.out _))).mono ?_
  rintro e w0 ⟨rfl, hbz⟩
  have hbz2 := below_next (HB0.out (.cells #[.slice p0 hM.1.length c0, .slice p1 hM.2.1.length c1, .slice p2 hM.2.2.length c2] 25)) hbz
  have HBz := Lib.hid hbz2
  have Bz := Lib.hid (B0.out.later hbz)
  have HFz := Lib.hid (few11_any w0 _ hM (HA0.out.below hbz2))
  clear y0 y1 y2 hbz hbz2
  have y0 := Bz.out.cell 0 rfl
  have y1 := Bz.out.cell 1 rfl
  have y2 := Bz.out.cell 2 rfl
  go_wp2_with fail
  refine HFz.out.mono ?_
  rintro e w1 ⟨v', rfl, hv', ha', hb1⟩
  have HV1 := Lib.hid hv'
  have HA1 := Lib.hid ha'
  obtain ⟨u0, u1, u2, rfl, ⟨q0, d0, rfl, -⟩, ⟨q1, d1, rfl, -⟩, ⟨q2, d2, rfl, -⟩⟩ := hv'
  have z := Bz.out.later hb1
  have z0 := z.cell 0 rfl
  have z1 := z.cell 1 rfl
  have z2 := z.cell 2 rfl
  have z3 := z.frozen 0
  have z4 := z.frozen 1
  have z5 := z.frozen 2
  have ST := Lib.hid (few_stored HBz.out Bz.out (by intro x hx; simp at hx; rcases hx with rfl | rfl | rfl <;> exact ⟨_, _, _, rfl⟩) hb1 HV1.out HA1.out)
  clear ha' hb1 z y0 y1 y2 HFz HV1 HA1
  go_upto_region 4 with fail
  generalize (((w1.setCell ⟨w.heap.size, 0, none⟩ (.slice q0 (fewH hM).1.length d0)).setCell ⟨w.heap.size, 1, none⟩ (.slice q1 (fewH hM).2.1.length d1)).setCell ⟨w.heap.size, 2, none⟩ (.slice q2 (fewH hM).2.2.length d2)) = W2 at *
  obtain ⟨k0, HVx, HAx, hbW⟩ := ST.out
  have KB := Lib.hid k0
  have HV2 := Lib.hid HVx
  have HA2 := Lib.hid HAx
  have HBW := Lib.hid hbW
  have o0 := k0.cell 0 rfl
  have o1 := k0.cell 1 rfl
  have o2 := k0.cell 2 rfl
  have hl0 : w.heap.size < W2.heap.size := k0.lt
  have hl1 : w.heap.size < W2.heap.size + 1 := by omega
  have hl2 : w.heap.size < W2.heap.size + 1 + 1 := by omega
  clear ST k0 HVx HAx hbW HBx z0 z1 z2 z3 z4 z5
  generalize fewH hM = hF at *
  go_wp2_with fail
  refine (hmay_v (HV2.out.below (Below.refl _ _)) HMo.out (Utf8Tabs_below HT.out (HBW.out.trans (Below.mono (Below.refl _ _) HBW.out.size)))).mono ?_
  rintro e w3 ⟨rfl, hb3⟩
  have hw3 : Below W2.heap.size W2 w3 := hb3
  clear hb3 o0 o1 o2 HA2
  have k3 := KB.out.later hw3
  have r30 := k3.cell 0 rfl
  have r31 := k3.cell 1 rfl
  have r32 := k3.cell 2 rfl
  clear k3
  cases hmm : mayH hF with
  | false =>
    have HE := Lib.hid (err_no hmm)
    have HN := Lib.hid (ahead_no hF a b hmm)
    clear hmm
    rw [HE.out]
    go_wp2_with fail
    refine (ahead_v a b (HV2.out.below hw3) HMo.out (Utf8Tabs_below HT.out (HBW.out.trans (Below.mono hw3 HBW.out.size)))).mono ?_
    rintro e w4 ⟨rfl, hb4⟩
    rw [HN.out]
    go_wp2_with fail
    go_ret
    exact ⟨rfl, HBW.out.trans (Below.mono (below_next hw3 hb4) HBW.out.size)⟩
  | true =>
    have HE := Lib.hid (err_yes hmm)
    have HTot := Lib.hid (sess_total hF hmm)
    have HYm := Lib.hid hmm
    rw [HE.out]
    clear hmm
    cases hA1 : aheadH hF a b with
    | false =>
      go_wp2_with fail
      refine (ahead_v a b (HV2.out.below hw3) HMo.out (Utf8Tabs_below HT.out (HBW.out.trans (Below.mono hw3 HBW.out.size)))).mono ?_
      rintro e w4 ⟨rfl, hb4⟩
      rw [hA1]
      have hw4 := below_next hw3 hb4
      clear hb4
      have k4 := KB.out.later hw4
      have r40 := k4.cell 0 rfl
      have r41 := k4.cell 1 rfl
      have r42 := k4.cell 2 rfl
      clear k4
      clear hw3 r30 r31 r32 hA1
      obtain ⟨wb, hwbE⟩ : ∃ wb : World, wb = w4 := ⟨_, rfl⟩
      subst hwbE
      have HWb := Lib.hid hw4
      clear hw4
      go_wp2_with fail
      go_loopw [9, 10] (fun nn ss wr => ∃ k : Nat, k ≤ hF.1.length ∧ ss = .int .i64 k ∧ nn = .int .i64 (sumS (fun s : Nat => (whereL (sessP (s : Int)) hF).length) k : Nat) ∧ Below W2.heap.size W2 wr) (fun _ ss _ => hF.1.length - (RowKit.intOf ss).toNat)
      case atStart => exact ⟨0, Nat.zero_le _, rfl, rfl, HWb.out⟩
      case round =>
        obtain ⟨k, hk, rfl, rfl, hbw⟩ := hrel
        have k9 := KB.out.later hbw
        have r90 := k9.cell 0 rfl
        have r91 := k9.cell 1 rfl
        have r92 := k9.cell 2 rfl
        clear k9
        obtain ⟨wo, rfl⟩ : ∃ wo : World, wo = wr := ⟨_, rfl⟩
        have hbound := sumS_le (fun s : Nat => (whereL (sessP (s : Int)) hF).length) hF.1.length k hk
        rw [HTot.out] at hbound
        have h1000 : hF.2.2.length ≤ 1000 := HMo.out.2.2.1
        have h1001 : hF.1.length ≤ 1000 := HMo.out.1
        by_cases hk1 : k < hF.1.length
        · have hb2 := sumS_le (fun s : Nat => (whereL (sessP (s : Int)) hF).length) hF.1.length (k + 1) hk1
          rw [HTot.out] at hb2
          have hsn : sumS (fun s : Nat => (whereL (sessP (s : Int)) hF).length) (k + 1) = sumS (fun s : Nat => (whereL (sessP (s : Int)) hF).length) k + (whereL (sessP (k : Int)) hF).length := rfl
          rw [hsn] at hb2
          have HAh := Lib.hid (fun i hi => sess_ahead hF (k : Int) HYm.out i hi)
          go_wp2_with fail
          refine (session_v (k : Int) (HV2.out.below hbw) HMo.out (Utf8Tabs_below HT.out (HBW.out.trans (Below.mono hbw HBW.out.size)))).mono ?_
          rintro e w6 ⟨vl, rfl, ⟨pl, cl, rfl, hil⟩, hb6⟩
          have hw6 := below_next hbw hb6
          have HIL := Lib.hid hil
          have HSn := Lib.hid hsn
          clear hb6 hil hsn r90 r91 r92
          generalize whereL (sessP (k : Int)) hF = l at *
          generalize sumS (fun s : Nat => (whereL (sessP (s : Int)) hF).length) k = S0 at *
          have W6 := Lib.hid hw6
          clear hw6 hbw
          go_wp2_with fail
          go_loopw [12] (fun i wr => ∃ q : Nat, q ≤ l.length ∧ i = .int .i64 ((q : Int) + 1) ∧ Below w6.heap.size w6 wr) (fun i _ => l.length + 1 - (RowKit.intOf i).toNat)
          case atStart => exact ⟨0, Nat.zero_le _, rfl, Below.refl _ _⟩
          case round =>
            obtain ⟨q, hq, rfl, hb7⟩ := hrel
            have hw7 := below_next W6.out hb7
            by_cases hq1 : q + 1 < l.length
            · obtain ⟨g, rfl, e0⟩ := HIL.out q (by omega)
              obtain ⟨g', e', e1⟩ := HIL.out (q + 1) hq1
              injection e' with e'
              injection e' with e'
              subst e'
              have e0' := cell_later hb7 e0
              have e1' := cell_later hb7 e1
              have hah := HAh.out q hq1
              generalize l.getD q 0 = x at *
              generalize l.getD (q + 1) 0 = y at *
              have HAX := Lib.hid hah
              have f1 : IntKind.i64.wrap ((q : Int) + 1 - 1) = (q : Int) := by rw [Int.add_sub_cancel]; exact IntWalk.i64_in _ (by omega)
              have f2 : IntKind.i64.wrap ((q : Int)) = (q : Int) := IntWalk.i64_in _ (by omega)
              have f3 : ((q : Int) + 1).toNat = q + 1 := by omega
              have f4 : ((q : Int) + 1 - 1) = (q : Int) := by omega
              have f5 : (0 : Int) ≤ (q : Int) + 1 := by omega
              have f6 : (q : Int) + 1 < (l.length : Int) := by omega
              have f7 : (q : Int) < (l.length : Int) := by omega
              have HS : RowKit.Hid (∀ w', Below wr.heap.size wr w' → (w'.cell? ⟨w.heap.size, 0, none⟩ = some (.slice q0 hF.1.length d0) ∧ w'.cell? ⟨w.heap.size, 1, none⟩ = some (.slice q1 hF.2.1.length d1) ∧ w'.cell? ⟨w.heap.size, 2, none⟩ = some (.slice q2 hF.2.2.length d2) ∧ w'.cell? ⟨g, q, none⟩ = some (.int .i64 x) ∧ w'.cell? ⟨g, q + 1, none⟩ = some (.int .i64 y) ∧ Below wr.heap.size wr w')) := Lib.hid (fun w' hb => ⟨(KB.out.later (below_next hw7 hb)).cell 0 rfl, (KB.out.later (below_next hw7 hb)).cell 1 rfl, (KB.out.later (below_next hw7 hb)).cell 2 rfl, cell_later hb e0', cell_later hb e1', hb⟩)
              have HAc := Lib.hid (fun w' (hb : Below wr.heap.size wr w') => ahead_v x y (HV2.out.below (below_next hw7 hb)) HMo.out (Utf8Tabs_below HT.out (HBW.out.trans ((below_next hw7 hb).mono HBW.out.size))))
              rw [HAX.out] at HAc
              clear e0 e1 hah
              go_wp2_with fail
              go_region_held3 (fun w' => w'.cell? ⟨w.heap.size, 0, none⟩ = some (.slice q0 hF.1.length d0) ∧ w'.cell? ⟨w.heap.size, 1, none⟩ = some (.slice q1 hF.2.1.length d1) ∧ w'.cell? ⟨w.heap.size, 2, none⟩ = some (.slice q2 hF.2.2.length d2) ∧ w'.cell? ⟨g, q, none⟩ = some (.int .i64 x) ∧ w'.cell? ⟨g, q + 1, none⟩ = some (.int .i64 y) ∧ Below wr.heap.size wr w')
                ((go_split_ands; exact HS.out _ (by first | assumption | exact Below.drew (Below.refl _ _) | exact below_next (by assumption) (by assumption) | exact below_next (Below.drew (Below.refl _ _)) (by assumption))))
                ((go_split_ands; go_at_call 22; refine (HAc.out _ (by assumption)).mono ?_; rintro e w8 ⟨rfl, hb8⟩))
              go_split_ands
              have hb78 := below_next hb7 (show Below wr.heap.size wr w8 by assumption)
              clear f1 f2 f3 f4
              go_wp2_with fail
              go_roundw
              case rel => exact ⟨q + 1, by omega, by go_num, hb78⟩
              case measure => simp [RowKit.intOf]; omega
            · have hn1 : ¬ ((q : Int) + 1 < (l.length : Int)) := by omega
              go_wp2_with fail
              go_roundw
              case rel => exact ⟨k + 1, by omega, by go_num, by rw [HSn.out, Int.natCast_add], hw7⟩
              case measure => simp [RowKit.intOf]; omega
        · have hke : k = hF.1.length := by omega
          subst hke
          have HT2 := Lib.hid HTot.out
          have e1 : ((sumS (fun s : Nat => (whereL (sessP (s : Int)) hF).length) hF.1.length : Nat) : Int) = (hF.2.2.length : Int) := by rw [HT2.out]
          have e2 : (((sumS (fun s : Nat => (whereL (sessP (s : Int)) hF).length) hF.1.length : Nat) : Int) == (hF.2.2.length : Int)) = true := by rw [e1]; exact beq_self_eq_true _
          clear e1
          go_wp2_with fail
          go_ret
          exact ⟨rfl, HBW.out.trans (Below.mono hbw HBW.out.size)⟩
    | true =>
      have HA2 := Lib.hid (ahead_asym hF a b hA1)
      cases hA3 : aheadH hF b c with
      | false =>
        have HA1 := Lib.hid hA1
        have HA3 := Lib.hid hA3
        clear hA1 hA3
        go_wp2_with fail
        refine (ahead_v a b (HV2.out.below hw3) HMo.out (Utf8Tabs_below HT.out (HBW.out.trans (Below.mono hw3 HBW.out.size)))).mono ?_
        rintro e w4 ⟨rfl, hb4⟩
        rw [HA1.out]
        have hw4 := below_next hw3 hb4
        clear hb4
        have k4 := KB.out.later hw4
        have r40 := k4.cell 0 rfl
        have r41 := k4.cell 1 rfl
        have r42 := k4.cell 2 rfl
        clear k4
        go_wp2_with fail
        refine (ahead_v b a (HV2.out.below hw4) HMo.out (Utf8Tabs_below HT.out (HBW.out.trans (Below.mono hw4 HBW.out.size)))).mono ?_
        rintro e w5 ⟨rfl, hb5⟩
        rw [HA2.out]
        have hw5 := below_next hw4 hb5
        clear hb5
        have k5 := KB.out.later hw5
        have r50 := k5.cell 0 rfl
        have r51 := k5.cell 1 rfl
        have r52 := k5.cell 2 rfl
        clear k5
        go_wp2_with fail
        refine (ahead_v b c (HV2.out.below hw5) HMo.out (Utf8Tabs_below HT.out (HBW.out.trans (Below.mono hw5 HBW.out.size)))).mono ?_
        rintro e w51 ⟨rfl, hb51⟩
        rw [HA3.out]
        have hw51 := below_next hw5 hb51
        clear hb51
        have k51 := KB.out.later hw51
        have r510 := k51.cell 0 rfl
        have r511 := k51.cell 1 rfl
        have r512 := k51.cell 2 rfl
        clear k51
        clear hw3 hw4 hw5 r30 r31 r32 r40 r41 r42 r50 r51 r52
        obtain ⟨wb, hwbE⟩ : ∃ wb : World, wb = w51 := ⟨_, rfl⟩
        subst hwbE
        have HWb := Lib.hid hw51
        clear hw51
        go_wp2_with fail
        go_loopw [9, 10] (fun nn ss wr => ∃ k : Nat, k ≤ hF.1.length ∧ ss = .int .i64 k ∧ nn = .int .i64 (sumS (fun s : Nat => (whereL (sessP (s : Int)) hF).length) k : Nat) ∧ Below W2.heap.size W2 wr) (fun _ ss _ => hF.1.length - (RowKit.intOf ss).toNat)
        case atStart => exact ⟨0, Nat.zero_le _, rfl, rfl, HWb.out⟩
        case round =>
          obtain ⟨k, hk, rfl, rfl, hbw⟩ := hrel
          have k9 := KB.out.later hbw
          have r90 := k9.cell 0 rfl
          have r91 := k9.cell 1 rfl
          have r92 := k9.cell 2 rfl
          clear k9
          obtain ⟨wo, rfl⟩ : ∃ wo : World, wo = wr := ⟨_, rfl⟩
          have hbound := sumS_le (fun s : Nat => (whereL (sessP (s : Int)) hF).length) hF.1.length k hk
          rw [HTot.out] at hbound
          have h1000 : hF.2.2.length ≤ 1000 := HMo.out.2.2.1
          have h1001 : hF.1.length ≤ 1000 := HMo.out.1
          by_cases hk1 : k < hF.1.length
          · have hb2 := sumS_le (fun s : Nat => (whereL (sessP (s : Int)) hF).length) hF.1.length (k + 1) hk1
            rw [HTot.out] at hb2
            have hsn : sumS (fun s : Nat => (whereL (sessP (s : Int)) hF).length) (k + 1) = sumS (fun s : Nat => (whereL (sessP (s : Int)) hF).length) k + (whereL (sessP (k : Int)) hF).length := rfl
            rw [hsn] at hb2
            have HAh := Lib.hid (fun i hi => sess_ahead hF (k : Int) HYm.out i hi)
            go_wp2_with fail
            refine (session_v (k : Int) (HV2.out.below hbw) HMo.out (Utf8Tabs_below HT.out (HBW.out.trans (Below.mono hbw HBW.out.size)))).mono ?_
            rintro e w6 ⟨vl, rfl, ⟨pl, cl, rfl, hil⟩, hb6⟩
            have hw6 := below_next hbw hb6
            have HIL := Lib.hid hil
            have HSn := Lib.hid hsn
            clear hb6 hil hsn r90 r91 r92
            generalize whereL (sessP (k : Int)) hF = l at *
            generalize sumS (fun s : Nat => (whereL (sessP (s : Int)) hF).length) k = S0 at *
            have W6 := Lib.hid hw6
            clear hw6 hbw
            go_wp2_with fail
            go_loopw [12] (fun i wr => ∃ q : Nat, q ≤ l.length ∧ i = .int .i64 ((q : Int) + 1) ∧ Below w6.heap.size w6 wr) (fun i _ => l.length + 1 - (RowKit.intOf i).toNat)
            case atStart => exact ⟨0, Nat.zero_le _, rfl, Below.refl _ _⟩
            case round =>
              obtain ⟨q, hq, rfl, hb7⟩ := hrel
              have hw7 := below_next W6.out hb7
              by_cases hq1 : q + 1 < l.length
              · obtain ⟨g, rfl, e0⟩ := HIL.out q (by omega)
                obtain ⟨g', e', e1⟩ := HIL.out (q + 1) hq1
                injection e' with e'
                injection e' with e'
                subst e'
                have e0' := cell_later hb7 e0
                have e1' := cell_later hb7 e1
                have hah := HAh.out q hq1
                generalize l.getD q 0 = x at *
                generalize l.getD (q + 1) 0 = y at *
                have HAX := Lib.hid hah
                have f1 : IntKind.i64.wrap ((q : Int) + 1 - 1) = (q : Int) := by rw [Int.add_sub_cancel]; exact IntWalk.i64_in _ (by omega)
                have f2 : IntKind.i64.wrap ((q : Int)) = (q : Int) := IntWalk.i64_in _ (by omega)
                have f3 : ((q : Int) + 1).toNat = q + 1 := by omega
                have f4 : ((q : Int) + 1 - 1) = (q : Int) := by omega
                have f5 : (0 : Int) ≤ (q : Int) + 1 := by omega
                have f6 : (q : Int) + 1 < (l.length : Int) := by omega
                have f7 : (q : Int) < (l.length : Int) := by omega
                have HS : RowKit.Hid (∀ w', Below wr.heap.size wr w' → (w'.cell? ⟨w.heap.size, 0, none⟩ = some (.slice q0 hF.1.length d0) ∧ w'.cell? ⟨w.heap.size, 1, none⟩ = some (.slice q1 hF.2.1.length d1) ∧ w'.cell? ⟨w.heap.size, 2, none⟩ = some (.slice q2 hF.2.2.length d2) ∧ w'.cell? ⟨g, q, none⟩ = some (.int .i64 x) ∧ w'.cell? ⟨g, q + 1, none⟩ = some (.int .i64 y) ∧ Below wr.heap.size wr w')) := Lib.hid (fun w' hb => ⟨(KB.out.later (below_next hw7 hb)).cell 0 rfl, (KB.out.later (below_next hw7 hb)).cell 1 rfl, (KB.out.later (below_next hw7 hb)).cell 2 rfl, cell_later hb e0', cell_later hb e1', hb⟩)
                have HAc := Lib.hid (fun w' (hb : Below wr.heap.size wr w') => ahead_v x y (HV2.out.below (below_next hw7 hb)) HMo.out (Utf8Tabs_below HT.out (HBW.out.trans ((below_next hw7 hb).mono HBW.out.size))))
                rw [HAX.out] at HAc
                clear e0 e1 hah
                go_wp2_with fail
                go_region_held3 (fun w' => w'.cell? ⟨w.heap.size, 0, none⟩ = some (.slice q0 hF.1.length d0) ∧ w'.cell? ⟨w.heap.size, 1, none⟩ = some (.slice q1 hF.2.1.length d1) ∧ w'.cell? ⟨w.heap.size, 2, none⟩ = some (.slice q2 hF.2.2.length d2) ∧ w'.cell? ⟨g, q, none⟩ = some (.int .i64 x) ∧ w'.cell? ⟨g, q + 1, none⟩ = some (.int .i64 y) ∧ Below wr.heap.size wr w')
                  ((go_split_ands; exact HS.out _ (by first | assumption | exact Below.drew (Below.refl _ _) | exact below_next (by assumption) (by assumption) | exact below_next (Below.drew (Below.refl _ _)) (by assumption))))
                  ((go_split_ands; go_at_call 22; refine (HAc.out _ (by assumption)).mono ?_; rintro e w8 ⟨rfl, hb8⟩))
                go_split_ands
                have hb78 := below_next hb7 (show Below wr.heap.size wr w8 by assumption)
                clear f1 f2 f3 f4
                go_wp2_with fail
                go_roundw
                case rel => exact ⟨q + 1, by omega, by go_num, hb78⟩
                case measure => simp [RowKit.intOf]; omega
              · have hn1 : ¬ ((q : Int) + 1 < (l.length : Int)) := by omega
                go_wp2_with fail
                go_roundw
                case rel => exact ⟨k + 1, by omega, by go_num, by rw [HSn.out, Int.natCast_add], hw7⟩
                case measure => simp [RowKit.intOf]; omega
          · have hke : k = hF.1.length := by omega
            subst hke
            have HT2 := Lib.hid HTot.out
            have e1 : ((sumS (fun s : Nat => (whereL (sessP (s : Int)) hF).length) hF.1.length : Nat) : Int) = (hF.2.2.length : Int) := by rw [HT2.out]
            have e2 : (((sumS (fun s : Nat => (whereL (sessP (s : Int)) hF).length) hF.1.length : Nat) : Int) == (hF.2.2.length : Int)) = true := by rw [e1]; exact beq_self_eq_true _
            clear e1
            go_wp2_with fail
            go_ret
            exact ⟨rfl, HBW.out.trans (Below.mono hbw HBW.out.size)⟩
      | true =>
        have HA4 := Lib.hid (ahead_trans hF a b c hA1 hA3)
        have HA1 := Lib.hid hA1
        have HA3 := Lib.hid hA3
        clear hA1 hA3
        go_wp2_with fail
        refine (ahead_v a b (HV2.out.below hw3) HMo.out (Utf8Tabs_below HT.out (HBW.out.trans (Below.mono hw3 HBW.out.size)))).mono ?_
        rintro e w4 ⟨rfl, hb4⟩
        rw [HA1.out]
        have hw4 := below_next hw3 hb4
        clear hb4
        have k4 := KB.out.later hw4
        have r40 := k4.cell 0 rfl
        have r41 := k4.cell 1 rfl
        have r42 := k4.cell 2 rfl
        clear k4
        go_wp2_with fail
        refine (ahead_v b a (HV2.out.below hw4) HMo.out (Utf8Tabs_below HT.out (HBW.out.trans (Below.mono hw4 HBW.out.size)))).mono ?_
        rintro e w5 ⟨rfl, hb5⟩
        rw [HA2.out]
        have hw5 := below_next hw4 hb5
        clear hb5
        have k5 := KB.out.later hw5
        have r50 := k5.cell 0 rfl
        have r51 := k5.cell 1 rfl
        have r52 := k5.cell 2 rfl
        clear k5
        go_wp2_with fail
        refine (ahead_v b c (HV2.out.below hw5) HMo.out (Utf8Tabs_below HT.out (HBW.out.trans (Below.mono hw5 HBW.out.size)))).mono ?_
        rintro e w51 ⟨rfl, hb51⟩
        rw [HA3.out]
        have hw51 := below_next hw5 hb51
        clear hb51
        have k51 := KB.out.later hw51
        have r510 := k51.cell 0 rfl
        have r511 := k51.cell 1 rfl
        have r512 := k51.cell 2 rfl
        clear k51
        go_wp2_with fail
        refine (ahead_v a c (HV2.out.below hw51) HMo.out (Utf8Tabs_below HT.out (HBW.out.trans (Below.mono hw51 HBW.out.size)))).mono ?_
        rintro e w52 ⟨rfl, hb52⟩
        rw [HA4.out]
        have hw52 := below_next hw51 hb52
        clear hb52
        have k52 := KB.out.later hw52
        have r520 := k52.cell 0 rfl
        have r521 := k52.cell 1 rfl
        have r522 := k52.cell 2 rfl
        clear k52
        clear hw3 hw4 hw5 hw51 r30 r31 r32 r40 r41 r42 r50 r51 r52 r510 r511 r512
        obtain ⟨wb, hwbE⟩ : ∃ wb : World, wb = w52 := ⟨_, rfl⟩
        subst hwbE
        have HWb := Lib.hid hw52
        clear hw52
        go_wp2_with fail
        go_loopw [9, 10] (fun nn ss wr => ∃ k : Nat, k ≤ hF.1.length ∧ ss = .int .i64 k ∧ nn = .int .i64 (sumS (fun s : Nat => (whereL (sessP (s : Int)) hF).length) k : Nat) ∧ Below W2.heap.size W2 wr) (fun _ ss _ => hF.1.length - (RowKit.intOf ss).toNat)
        case atStart => exact ⟨0, Nat.zero_le _, rfl, rfl, HWb.out⟩
        case round =>
          obtain ⟨k, hk, rfl, rfl, hbw⟩ := hrel
          have k9 := KB.out.later hbw
          have r90 := k9.cell 0 rfl
          have r91 := k9.cell 1 rfl
          have r92 := k9.cell 2 rfl
          clear k9
          obtain ⟨wo, rfl⟩ : ∃ wo : World, wo = wr := ⟨_, rfl⟩
          have hbound := sumS_le (fun s : Nat => (whereL (sessP (s : Int)) hF).length) hF.1.length k hk
          rw [HTot.out] at hbound
          have h1000 : hF.2.2.length ≤ 1000 := HMo.out.2.2.1
          have h1001 : hF.1.length ≤ 1000 := HMo.out.1
          by_cases hk1 : k < hF.1.length
          · have hb2 := sumS_le (fun s : Nat => (whereL (sessP (s : Int)) hF).length) hF.1.length (k + 1) hk1
            rw [HTot.out] at hb2
            have hsn : sumS (fun s : Nat => (whereL (sessP (s : Int)) hF).length) (k + 1) = sumS (fun s : Nat => (whereL (sessP (s : Int)) hF).length) k + (whereL (sessP (k : Int)) hF).length := rfl
            rw [hsn] at hb2
            have HAh := Lib.hid (fun i hi => sess_ahead hF (k : Int) HYm.out i hi)
            go_wp2_with fail
            refine (session_v (k : Int) (HV2.out.below hbw) HMo.out (Utf8Tabs_below HT.out (HBW.out.trans (Below.mono hbw HBW.out.size)))).mono ?_
            rintro e w6 ⟨vl, rfl, ⟨pl, cl, rfl, hil⟩, hb6⟩
            have hw6 := below_next hbw hb6
            have HIL := Lib.hid hil
            have HSn := Lib.hid hsn
            clear hb6 hil hsn r90 r91 r92
            generalize whereL (sessP (k : Int)) hF = l at *
            generalize sumS (fun s : Nat => (whereL (sessP (s : Int)) hF).length) k = S0 at *
            have W6 := Lib.hid hw6
            clear hw6 hbw
            go_wp2_with fail
            go_loopw [12] (fun i wr => ∃ q : Nat, q ≤ l.length ∧ i = .int .i64 ((q : Int) + 1) ∧ Below w6.heap.size w6 wr) (fun i _ => l.length + 1 - (RowKit.intOf i).toNat)
            case atStart => exact ⟨0, Nat.zero_le _, rfl, Below.refl _ _⟩
            case round =>
              obtain ⟨q, hq, rfl, hb7⟩ := hrel
              have hw7 := below_next W6.out hb7
              by_cases hq1 : q + 1 < l.length
              · obtain ⟨g, rfl, e0⟩ := HIL.out q (by omega)
                obtain ⟨g', e', e1⟩ := HIL.out (q + 1) hq1
                injection e' with e'
                injection e' with e'
                subst e'
                have e0' := cell_later hb7 e0
                have e1' := cell_later hb7 e1
                have hah := HAh.out q hq1
                generalize l.getD q 0 = x at *
                generalize l.getD (q + 1) 0 = y at *
                have HAX := Lib.hid hah
                have f1 : IntKind.i64.wrap ((q : Int) + 1 - 1) = (q : Int) := by rw [Int.add_sub_cancel]; exact IntWalk.i64_in _ (by omega)
                have f2 : IntKind.i64.wrap ((q : Int)) = (q : Int) := IntWalk.i64_in _ (by omega)
                have f3 : ((q : Int) + 1).toNat = q + 1 := by omega
                have f4 : ((q : Int) + 1 - 1) = (q : Int) := by omega
                have f5 : (0 : Int) ≤ (q : Int) + 1 := by omega
                have f6 : (q : Int) + 1 < (l.length : Int) := by omega
                have f7 : (q : Int) < (l.length : Int) := by omega
                have HS : RowKit.Hid (∀ w', Below wr.heap.size wr w' → (w'.cell? ⟨w.heap.size, 0, none⟩ = some (.slice q0 hF.1.length d0) ∧ w'.cell? ⟨w.heap.size, 1, none⟩ = some (.slice q1 hF.2.1.length d1) ∧ w'.cell? ⟨w.heap.size, 2, none⟩ = some (.slice q2 hF.2.2.length d2) ∧ w'.cell? ⟨g, q, none⟩ = some (.int .i64 x) ∧ w'.cell? ⟨g, q + 1, none⟩ = some (.int .i64 y) ∧ Below wr.heap.size wr w')) := Lib.hid (fun w' hb => ⟨(KB.out.later (below_next hw7 hb)).cell 0 rfl, (KB.out.later (below_next hw7 hb)).cell 1 rfl, (KB.out.later (below_next hw7 hb)).cell 2 rfl, cell_later hb e0', cell_later hb e1', hb⟩)
                have HAc := Lib.hid (fun w' (hb : Below wr.heap.size wr w') => ahead_v x y (HV2.out.below (below_next hw7 hb)) HMo.out (Utf8Tabs_below HT.out (HBW.out.trans ((below_next hw7 hb).mono HBW.out.size))))
                rw [HAX.out] at HAc
                clear e0 e1 hah
                go_wp2_with fail
                go_region_held3 (fun w' => w'.cell? ⟨w.heap.size, 0, none⟩ = some (.slice q0 hF.1.length d0) ∧ w'.cell? ⟨w.heap.size, 1, none⟩ = some (.slice q1 hF.2.1.length d1) ∧ w'.cell? ⟨w.heap.size, 2, none⟩ = some (.slice q2 hF.2.2.length d2) ∧ w'.cell? ⟨g, q, none⟩ = some (.int .i64 x) ∧ w'.cell? ⟨g, q + 1, none⟩ = some (.int .i64 y) ∧ Below wr.heap.size wr w')
                  ((go_split_ands; exact HS.out _ (by first | assumption | exact Below.drew (Below.refl _ _) | exact below_next (by assumption) (by assumption) | exact below_next (Below.drew (Below.refl _ _)) (by assumption))))
                  ((go_split_ands; go_at_call 22; refine (HAc.out _ (by assumption)).mono ?_; rintro e w8 ⟨rfl, hb8⟩))
                go_split_ands
                have hb78 := below_next hb7 (show Below wr.heap.size wr w8 by assumption)
                clear f1 f2 f3 f4
                go_wp2_with fail
                go_roundw
                case rel => exact ⟨q + 1, by omega, by go_num, hb78⟩
                case measure => simp [RowKit.intOf]; omega
              · have hn1 : ¬ ((q : Int) + 1 < (l.length : Int)) := by omega
                go_wp2_with fail
                go_roundw
                case rel => exact ⟨k + 1, by omega, by go_num, by rw [HSn.out, Int.natCast_add], hw7⟩
                case measure => simp [RowKit.intOf]; omega
          · have hke : k = hF.1.length := by omega
            subst hke
            have HT2 := Lib.hid HTot.out
            have e1 : ((sumS (fun s : Nat => (whereL (sessP (s : Int)) hF).length) hF.1.length : Nat) : Int) = (hF.2.2.length : Int) := by rw [HT2.out]
            have e2 : (((sumS (fun s : Nat => (whereL (sessP (s : Int)) hF).length) hF.1.length : Nat) : Int) == (hF.2.2.length : Int)) = true := by rw [e1]; exact beq_self_eq_true _
            clear e1
            go_wp2_with fail
            go_ret
            exact ⟨rfl, HBW.out.trans (Below.mono hbw HBW.out.size)⟩
end Go.Proofs.YthalbcmlehpfaaaDoor
