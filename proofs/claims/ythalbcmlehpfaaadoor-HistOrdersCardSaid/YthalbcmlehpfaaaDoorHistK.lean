/-
  The walks of layer 11 (hist): whether a transaction is ahead of another one of its session, in the program and in the reference. No conditions but that unicode/utf8's two tables are as their initialisers lay them.
-/
import Derived.Test.YthalbcmlehpfaaaDoorHistF
import Derived.Test.YthalbcmlehpfaaaDoorHistJ
namespace Go.Proofs.YthalbcmlehpfaaaDoor
open Go.RowKit Go.Lib
attribute [local go_sem] Later.cell Later.frozen

/-- Is the transaction ahead? -/
def aheadH (h : HistM) (a b : Int) : Bool := mayH h && (decide (0 ≤ a) && (decide (a < b) && (decide (b < (h.2.2.length : Int)) && ((h.2.2.getD a.toNat noTxn).1 == (h.2.2.getD b.toNat noTxn).1))))

set_option maxRecDepth 100000 in
set_option maxHeartbeats 4000000 in
theorem ahead_any (v0 v1 v2 : Value) (h : HistM) (a b : Int) (w : World) (h0 : Texts w v0 h.1) (h1 : Texts w v1 h.2.1) (h2 : TxnsS w v2 h.2.2) (hm : Modst h) (hT : Lib.Utf8Tabs 0 1 w) :
    Calls Tryd.prog 22 #[.agg #[v0, v1, v2], .int .i64 a, .int .i64 b] w fun e w' => e = .returned (.bool (aheadH h a b)) ∧ Below w.heap.size w w' := by
  have HMay := Lib.hid (fun w' (hb : Below w.heap.size w w') => hmay_any v0 v1 v2 h w' (h0.below hb) (h1.below hb) (h2.below hb) hm (Utf8Tabs_below hT hb))
  obtain ⟨p2, c2, rfl, hp⟩ := h2
  obtain ⟨p0, c0, rfl, -⟩ := h0
  obtain ⟨p1, c1, rfl, -⟩ := h1
  have HX := Lib.hid hp
  have m3 : h.2.2.length ≤ 1000 := hm.2.2.1
  have hb0 : Below w.heap.size w (w.alloc (.cells #[.slice p0 h.1.length c0, .slice p1 h.2.1.length c1, .slice p2 h.2.2.length c2] 25)) := (Below.refl _ w).alloc (Nat.le_refl _) _
  have HB0 := Lib.hid hb0
  have b0 := Blk.new w 25 [.slice p0 h.1.length c0, .slice p1 h.2.1.length c1, .slice p2 h.2.2.length c2]
  have x0 := b0.cell 0 rfl
  have x1 := b0.cell 1 rfl
  have x2 := b0.cell 2 rfl
  have hl0 : w.heap.size < w.heap.size + 1 := by omega
  have hl1 : w.heap.size < (w.alloc (.cells #[.slice p0 h.1.length c0, .slice p1 h.2.1.length c1, .slice p2 h.2.2.length c2] 25)).heap.size := b0.lt
  have HA : RowKit.Hid (aheadH h a b = (mayH h && (decide (0 ≤ a) && (decide (a < b) && (decide (b < (h.2.2.length : Int)) && ((h.2.2.getD a.toNat noTxn).1 == (h.2.2.getD b.toNat noTxn).1)))))) := Lib.hid rfl
  clear hp hm b0 hb0 hT
  cases hmm : mayH h with
  | false =>
    have HE := err_no hmm
    rw [HE] at HMay
    have HR : RowKit.Hid (aheadH h a b = false) := Lib.hid (by rw [HA.out, hmm]; rfl)
    clear HE hmm HA
    rw [HR.out]
    go_enter Tryd.func22, Tryd.ntmps22
    go_wp2_with fail
    refine wp_region_later (by kernel_rfl) (by kernel_rfl) ?_
    repeat (go_big_quiet_step (first | (go_at_call 20; exact Later.call (HMay.out _ (HB0.out.trans ((Later.h _).mono (by simp)))))))
    refine wpQuiet_nil ?_
    intro _ hw'
    obtain ⟨⟨w3, hb3⟩, hw''⟩ := hw'
    have hw3 : w3 = _ := hw''.symm
    subst hw3
    try dsimp only at hb3
    go_wp2_with fail
    go_ret
    exact ⟨rfl, HB0.out.trans (hb3.mono (by simp))⟩
  | true =>
    have HE := err_yes hmm
    rw [HE] at HMay
    rw [hmm, Bool.true_and] at HA
    clear HE hmm
    by_cases g1 : 0 ≤ a
    · have d1 : decide (0 ≤ a) = true := decide_eq_true g1
      by_cases g2 : a < b
      · have d2 : decide (a < b) = true := decide_eq_true g2
        by_cases g3 : b < (h.2.2.length : Int)
        · have d3 : decide (b < (h.2.2.length : Int)) = true := decide_eq_true g3
          obtain ⟨na, rfl⟩ := Int.eq_ofNat_of_zero_le g1
          obtain ⟨nb, rfl⟩ := Int.eq_ofNat_of_zero_le (show (0 : Int) ≤ b by omega)
          have hna : na < h.2.2.length := by omega
          have hnb : nb < h.2.2.length := by omega
          have HR : RowKit.Hid (aheadH h (na : Int) (nb : Int) = ((h.2.2.getD na noTxn).1 == (h.2.2.getD nb noTxn).1)) := Lib.hid (by rw [HA.out, d1, d2, d3]; rfl)
          obtain ⟨g, sv, rfl, a1, -, -, -⟩ := HX.out na hna
          obtain ⟨g', sv', e, e1, -, -, -⟩ := HX.out nb hnb
          injection e with e
          injection e with e
          subst e
          have hgl : g < w.heap.size := World.block_lt_of_cell? w ⟨g, na * 3, none⟩ a1
          have hgl2 : g < w.heap.size + 1 := by omega
          have q1 := cell_later HB0.out a1
          have q2 := cell_later HB0.out e1
          rw [HR.out]
          clear HR HA HX a1 e1
          generalize (h.2.2.getD na noTxn).1 = s1 at *
          generalize (h.2.2.getD nb noTxn).1 = s2 at *
          go_enter Tryd.func22, Tryd.ntmps22
          go_wp2_with fail
          refine wp_region_later (by kernel_rfl) (by kernel_rfl) ?_
          repeat (go_big_quiet_step (first | (go_at_call 20; exact Later.call (HMay.out _ (HB0.out.trans ((Later.h _).mono (by simp)))))))
          refine wpQuiet_nil ?_
          intro _ hw'
          obtain ⟨⟨w3, hb3⟩, hw''⟩ := hw'
          have hw3 : w3 = _ := hw''.symm
          subst hw3
          try dsimp only at hb3
          go_wp2_with fail
          go_ret
          exact ⟨rfl, HB0.out.trans (hb3.mono (by simp))⟩
        · have d3 : decide (b < (h.2.2.length : Int)) = false := decide_eq_false g3
          have HR : RowKit.Hid (aheadH h a b = false) := Lib.hid (by rw [HA.out, d1, d2, d3]; rfl)
          clear HA
          rw [HR.out]
          go_enter Tryd.func22, Tryd.ntmps22
          go_wp2_with fail
          refine wp_region_later (by kernel_rfl) (by kernel_rfl) ?_
          repeat (go_big_quiet_step (first | (go_at_call 20; exact Later.call (HMay.out _ (HB0.out.trans ((Later.h _).mono (by simp)))))))
          refine wpQuiet_nil ?_
          intro _ hw'
          obtain ⟨⟨w3, hb3⟩, hw''⟩ := hw'
          have hw3 : w3 = _ := hw''.symm
          subst hw3
          try dsimp only at hb3
          go_wp2_with fail
          go_ret
          exact ⟨rfl, HB0.out.trans (hb3.mono (by simp))⟩
      · have d2 : decide (a < b) = false := decide_eq_false g2
        have HR : RowKit.Hid (aheadH h a b = false) := Lib.hid (by rw [HA.out, d1, d2]; rfl)
        clear HA
        rw [HR.out]
        go_enter Tryd.func22, Tryd.ntmps22
        go_wp2_with fail
        refine wp_region_later (by kernel_rfl) (by kernel_rfl) ?_
        repeat (go_big_quiet_step (first | (go_at_call 20; exact Later.call (HMay.out _ (HB0.out.trans ((Later.h _).mono (by simp)))))))
        refine wpQuiet_nil ?_
        intro _ hw'
        obtain ⟨⟨w3, hb3⟩, hw''⟩ := hw'
        have hw3 : w3 = _ := hw''.symm
        subst hw3
        try dsimp only at hb3
        go_wp2_with fail
        go_ret
        exact ⟨rfl, HB0.out.trans (hb3.mono (by simp))⟩
    · have d1 : decide (0 ≤ a) = false := decide_eq_false g1
      have HR : RowKit.Hid (aheadH h a b = false) := Lib.hid (by rw [HA.out, d1]; rfl)
      clear HA
      rw [HR.out]
      go_enter Tryd.func22, Tryd.ntmps22
      go_wp2_with fail
      refine wp_region_later (by kernel_rfl) (by kernel_rfl) ?_
      repeat (go_big_quiet_step (first | (go_at_call 20; exact Later.call (HMay.out _ (HB0.out.trans ((Later.h _).mono (by simp)))))))
      refine wpQuiet_nil ?_
      intro _ hw'
      obtain ⟨⟨w3, hb3⟩, hw''⟩ := hw'
      have hw3 : w3 = _ := hw''.symm
      subst hw3
      try dsimp only at hb3
      go_wp2_with fail
      go_ret
      exact ⟨rfl, HB0.out.trans (hb3.mono (by simp))⟩

set_option maxRecDepth 100000 in
set_option maxHeartbeats 4000000 in
theorem rahead_any (v0 v1 v2 : Value) (h : HistM) (a b : Int) (w : World) (h0 : Texts w v0 h.1) (h1 : Texts w v1 h.2.1) (h2 : TxnsS w v2 h.2.2) (hm : Modst h) :
    Calls Tryd.prog 23 #[.agg #[v0, v1, v2], .int .i64 a, .int .i64 b] w fun e w' => e = .returned (.bool (aheadH h a b)) ∧ Below w.heap.size w w' := by
  have HMay := Lib.hid (fun w' (hb : Below w.heap.size w w') => rmay_any v0 v1 v2 h w' (h0.below hb) (h1.below hb) (h2.below hb) hm)
  obtain ⟨p2, c2, rfl, hp⟩ := h2
  obtain ⟨p0, c0, rfl, -⟩ := h0
  obtain ⟨p1, c1, rfl, -⟩ := h1
  have HX := Lib.hid hp
  have m3 : h.2.2.length ≤ 1000 := hm.2.2.1
  have hb0 : Below w.heap.size w (w.alloc (.cells #[.slice p0 h.1.length c0, .slice p1 h.2.1.length c1, .slice p2 h.2.2.length c2] 25)) := (Below.refl _ w).alloc (Nat.le_refl _) _
  have HB0 := Lib.hid hb0
  have b0 := Blk.new w 25 [.slice p0 h.1.length c0, .slice p1 h.2.1.length c1, .slice p2 h.2.2.length c2]
  have x0 := b0.cell 0 rfl
  have x1 := b0.cell 1 rfl
  have x2 := b0.cell 2 rfl
  have hl0 : w.heap.size < w.heap.size + 1 := by omega
  have hl1 : w.heap.size < (w.alloc (.cells #[.slice p0 h.1.length c0, .slice p1 h.2.1.length c1, .slice p2 h.2.2.length c2] 25)).heap.size := b0.lt
  have HA : RowKit.Hid (aheadH h a b = (mayH h && (decide (0 ≤ a) && (decide (a < b) && (decide (b < (h.2.2.length : Int)) && ((h.2.2.getD a.toNat noTxn).1 == (h.2.2.getD b.toNat noTxn).1)))))) := Lib.hid rfl
  clear hp hm b0 hb0
  cases hmm : mayH h with
  | false =>
    have HE := err_no hmm
    rw [HE] at HMay
    have HR : RowKit.Hid (aheadH h a b = false) := Lib.hid (by rw [HA.out, hmm]; rfl)
    clear HE hmm HA
    rw [HR.out]
    go_enter Tryd.func23, Tryd.ntmps23
    go_wp2_with fail
    refine wp_region_later (by kernel_rfl) (by kernel_rfl) ?_
    repeat (go_big_quiet_step (first | (go_at_call 11; exact Later.call (HMay.out _ (HB0.out.trans ((Later.h _).mono (by simp)))))))
    refine wpQuiet_nil ?_
    intro _ hw'
    obtain ⟨⟨w3, hb3⟩, hw''⟩ := hw'
    have hw3 : w3 = _ := hw''.symm
    subst hw3
    try dsimp only at hb3
    go_wp2_with fail
    go_ret
    exact ⟨rfl, HB0.out.trans (hb3.mono (by simp))⟩
  | true =>
    have HE := err_yes hmm
    rw [HE] at HMay
    rw [hmm, Bool.true_and] at HA
    clear HE hmm
    by_cases g1 : 0 ≤ a
    · have d1 : decide (0 ≤ a) = true := decide_eq_true g1
      by_cases g2 : a < b
      · have d2 : decide (a < b) = true := decide_eq_true g2
        by_cases g3 : b < (h.2.2.length : Int)
        · have d3 : decide (b < (h.2.2.length : Int)) = true := decide_eq_true g3
          obtain ⟨na, rfl⟩ := Int.eq_ofNat_of_zero_le g1
          obtain ⟨nb, rfl⟩ := Int.eq_ofNat_of_zero_le (show (0 : Int) ≤ b by omega)
          have hna : na < h.2.2.length := by omega
          have hnb : nb < h.2.2.length := by omega
          have HR : RowKit.Hid (aheadH h (na : Int) (nb : Int) = ((h.2.2.getD na noTxn).1 == (h.2.2.getD nb noTxn).1)) := Lib.hid (by rw [HA.out, d1, d2, d3]; rfl)
          obtain ⟨g, sv, rfl, a1, -, -, -⟩ := HX.out na hna
          obtain ⟨g', sv', e, e1, -, -, -⟩ := HX.out nb hnb
          injection e with e
          injection e with e
          subst e
          have hgl : g < w.heap.size := World.block_lt_of_cell? w ⟨g, na * 3, none⟩ a1
          have hgl2 : g < w.heap.size + 1 := by omega
          have q1 := cell_later HB0.out a1
          have q2 := cell_later HB0.out e1
          rw [HR.out]
          clear HR HA HX a1 e1
          generalize (h.2.2.getD na noTxn).1 = s1 at *
          generalize (h.2.2.getD nb noTxn).1 = s2 at *
          go_enter Tryd.func23, Tryd.ntmps23
          go_wp2_with fail
          refine wp_region_later (by kernel_rfl) (by kernel_rfl) ?_
          repeat (go_big_quiet_step (first | (go_at_call 11; exact Later.call (HMay.out _ (HB0.out.trans ((Later.h _).mono (by simp)))))))
          refine wpQuiet_nil ?_
          intro _ hw'
          obtain ⟨⟨w3, hb3⟩, hw''⟩ := hw'
          have hw3 : w3 = _ := hw''.symm
          subst hw3
          try dsimp only at hb3
          go_wp2_with fail
          go_ret
          exact ⟨rfl, HB0.out.trans (hb3.mono (by simp))⟩
        · have d3 : decide (b < (h.2.2.length : Int)) = false := decide_eq_false g3
          have HR : RowKit.Hid (aheadH h a b = false) := Lib.hid (by rw [HA.out, d1, d2, d3]; rfl)
          clear HA
          rw [HR.out]
          go_enter Tryd.func23, Tryd.ntmps23
          go_wp2_with fail
          refine wp_region_later (by kernel_rfl) (by kernel_rfl) ?_
          repeat (go_big_quiet_step (first | (go_at_call 11; exact Later.call (HMay.out _ (HB0.out.trans ((Later.h _).mono (by simp)))))))
          refine wpQuiet_nil ?_
          intro _ hw'
          obtain ⟨⟨w3, hb3⟩, hw''⟩ := hw'
          have hw3 : w3 = _ := hw''.symm
          subst hw3
          try dsimp only at hb3
          go_wp2_with fail
          go_ret
          exact ⟨rfl, HB0.out.trans (hb3.mono (by simp))⟩
      · have d2 : decide (a < b) = false := decide_eq_false g2
        have HR : RowKit.Hid (aheadH h a b = false) := Lib.hid (by rw [HA.out, d1, d2]; rfl)
        clear HA
        rw [HR.out]
        go_enter Tryd.func23, Tryd.ntmps23
        go_wp2_with fail
        refine wp_region_later (by kernel_rfl) (by kernel_rfl) ?_
        repeat (go_big_quiet_step (first | (go_at_call 11; exact Later.call (HMay.out _ (HB0.out.trans ((Later.h _).mono (by simp)))))))
        refine wpQuiet_nil ?_
        intro _ hw'
        obtain ⟨⟨w3, hb3⟩, hw''⟩ := hw'
        have hw3 : w3 = _ := hw''.symm
        subst hw3
        try dsimp only at hb3
        go_wp2_with fail
        go_ret
        exact ⟨rfl, HB0.out.trans (hb3.mono (by simp))⟩
    · have d1 : decide (0 ≤ a) = false := decide_eq_false g1
      have HR : RowKit.Hid (aheadH h a b = false) := Lib.hid (by rw [HA.out, d1]; rfl)
      clear HA
      rw [HR.out]
      go_enter Tryd.func23, Tryd.ntmps23
      go_wp2_with fail
      refine wp_region_later (by kernel_rfl) (by kernel_rfl) ?_
      repeat (go_big_quiet_step (first | (go_at_call 11; exact Later.call (HMay.out _ (HB0.out.trans ((Later.h _).mono (by simp)))))))
      refine wpQuiet_nil ?_
      intro _ hw'
      obtain ⟨⟨w3, hb3⟩, hw''⟩ := hw'
      have hw3 : w3 = _ := hw''.symm
      subst hw3
      try dsimp only at hb3
      go_wp2_with fail
      go_ret
      exact ⟨rfl, HB0.out.trans (hb3.mono (by simp))⟩

end Go.Proofs.YthalbcmlehpfaaaDoor
