/-
  The walks of layer 11 (hist), the program: which transactions are so: a session's, those that may have committed. No conditions but that unicode/utf8's two tables are as their initialisers lay them.
-/
import Derived.Test.YthalbcmlehpfaaaDoorHistE
import Derived.Test.YthalbcmlehpfaaaDoorInts
namespace Go.Proofs.YthalbcmlehpfaaaDoor
open Go.RowKit Go.Lib

/-- The numbers of those of the first so many that are so. -/
def idxs (p : TxnM → Bool) (L : List TxnM) (k : Nat) : List Int := ((List.range k).filter fun i => p (L.getD i noTxn)).map fun i : Nat => (i : Int)
theorem idxs_next (p : TxnM → Bool) (L : List TxnM) (k : Nat) : idxs p L (k + 1) = if p (L.getD k noTxn) then idxs p L k ++ [(k : Int)] else idxs p L k := by
  unfold idxs
  rw [List.range_succ, List.filter_append, List.map_append]
  by_cases h : p (L.getD k noTxn) = true
  · rw [if_pos h, List.filter_cons, if_pos h]
    rfl
  · rw [if_neg h, List.filter_cons, if_neg h]
    simp
theorem idxs_len (p : TxnM → Bool) (L : List TxnM) (k : Nat) : (idxs p L k).length ≤ k := by
  unfold idxs
  rw [List.length_map]
  exact Nat.le_trans (List.length_filter_le _ _) (by simp)
/-- Those that are so, of a history that may be. -/
def whereL (p : TxnM → Bool) (h : HistM) : List Int := if mayH h then idxs p h.2.2 h.2.2.length else []
theorem whereL_yes (p : TxnM → Bool) {h : HistM} (hm : mayH h = true) : whereL p h = idxs p h.2.2 h.2.2.length := by simp [whereL, hm]
theorem whereL_no (p : TxnM → Bool) {h : HistM} (hm : mayH h = false) : whereL p h = [] := by simp [whereL, hm]
/-- A session's transactions, those that may have committed. -/
def sessP (s : Int) (t : TxnM) : Bool := t.1 == s
def infosP (t : TxnM) : Bool := t.2.1 == 3
theorem err_yes {h : HistM} (hm : mayH h = true) : errH h = 0 := by simp [errH, hm]
theorem err_no {h : HistM} (hm : mayH h = false) : errH h = 4 := by simp [errH, hm]

set_option maxHeartbeats 1000000 in
theorem sess1_any (t : TxnM) (sv : Value) (s : Int) (B : Nat) (w : World) (hs : w.cell? ⟨B, 0, none⟩ = some (.int .i64 s)) :
    Calls Tryd.prog 51 #[.agg #[.int .i64 t.1, .int .i64 t.2.1, sv], .pointer (some ⟨B, 0, none⟩)] w fun e w' => e = .returned (.bool (sessP s t)) ∧ Below w.heap.size w w' := by
  have hB : B < w.heap.size := World.block_lt_of_cell? w ⟨B, 0, none⟩ hs
  go_enter Tryd.func51, Tryd.ntmps51
  go_wp2
  go_ret
  exact ⟨rfl, by go_grown⟩
set_option maxHeartbeats 1000000 in
theorem infos1_any (t : TxnM) (sv : Value) (w : World) :
    Calls Tryd.prog 42 #[.agg #[.int .i64 t.1, .int .i64 t.2.1, sv]] w fun e w' => e = .returned (.bool (infosP t)) ∧ Below w.heap.size w w' := by
  go_enter Tryd.func42, Tryd.ntmps42
  go_wp2
  go_ret
  exact ⟨rfl, by go_grown⟩

set_option maxRecDepth 100000 in
set_option maxHeartbeats 4000000 in
theorem where_sess (v0 v1 v2 : Value) (h : HistM) (s : Int) (B : Nat) (w : World) (h0 : Texts w v0 h.1) (h1 : Texts w v1 h.2.1) (h2 : TxnsS w v2 h.2.2) (hm : Modst h) (hT : Lib.Utf8Tabs 0 1 w) (hs : w.cell? ⟨B, 0, none⟩ = some (.int .i64 s)) :
    Calls Tryd.prog 41 #[.agg #[v0, v1, v2], .func (.func 51) #[] #[.pointer (some ⟨B, 0, none⟩)]] w fun e w' => ∃ v', e = .returned v' ∧ IntsS w' v' (whereL (sessP s) h) ∧ Below w.heap.size w w' := by
  have HMay := Lib.hid (fun w' (hb : Below w.heap.size w w') => hmay_any v0 v1 v2 h w' (h0.below hb) (h1.below hb) (h2.below hb) hm (Utf8Tabs_below hT hb))
  have HMod := Lib.hid hm
  obtain ⟨p2, c2, rfl, hp⟩ := h2
  obtain ⟨p0, c0, rfl, -⟩ := h0
  obtain ⟨p1, c1, rfl, -⟩ := h1
  have HX := Lib.hid hp
  have m3 : h.2.2.length ≤ 1000 := hm.2.2.1
  obtain ⟨i0, hi, hz0, hz1, hz2⟩ := info_parts info_i64
  have en := enters_of Tryd.func51 (by kernel_rfl) rfl
  have b0 := Blk.new w 25 [.slice p0 h.1.length c0, .slice p1 h.2.1.length c1, .slice p2 h.2.2.length c2]
  have hb0 : Below w.heap.size w (w.alloc (.cells #[.slice p0 h.1.length c0, .slice p1 h.2.1.length c1, .slice p2 h.2.2.length c2] 25)) := (Below.refl _ w).alloc (Nat.le_refl _) _
  have HB0 := Lib.hid hb0
  have B0 := Lib.hid b0
  have HSs := Lib.hid hs
  clear hp hm hT b0 hb0 hs
  go_enter Tryd.func41, Tryd.ntmps41
  go_wp2_with fail
  refine (HMay.out _ HB0.out).mono ?_
  rintro e w1 ⟨rfl, hb1⟩
  have hbw1 := below_next HB0.out hb1
  have d0 := B0.out.later hb1
  have x2 := d0.cell 2 rfl
  clear d0 hb1
  cases hmm : mayH h with
  | false =>
    have HE := Lib.hid (err_no hmm)
    have HW := Lib.hid (whereL_no (sessP s) hmm)
    clear hmm
    rw [HE.out]
    go_wp2_with fail
    go_ret
    exact ⟨_, rfl, by rw [HW.out]; exact ints_none _, hbw1⟩
  | true =>
    have HE := Lib.hid (err_yes hmm)
    have HW := Lib.hid (whereL_yes (sessP s) hmm)
    clear hmm
    rw [HE.out]
    go_wp2_with fail
    go_loopw [5, 14] (fun l i wr => ∃ k : Nat, k ≤ h.2.2.length ∧ i = .int .i64 k ∧ wr.ownsRow w.heap.size 3 1 l (idxs (sessP s) h.2.2 k).length (vints (idxs (sessP s) h.2.2 k)) ∧ Below w.heap.size w wr) (fun _ i _ => h.2.2.length - (RowKit.intOf i).toNat)
    case atStart => exact ⟨0, Nat.zero_le _, rfl, World.ownsRow_nil _ _ _ _, hbw1⟩
    case round =>
      obtain ⟨k, hk, rfl, hown, hbw⟩ := hrel
      by_cases hk1 : k < h.2.2.length
      · obtain ⟨g, sv, rfl, a1, a2, a3, ⟨p3, c3, rfl, -⟩⟩ := HX.out k hk1
        generalize (h.2.2.getD k noTxn).2.2.length = n3 at a3
        have a1' := cell_later hbw a1
        have a2' := cell_later hbw a2
        have a3' := cell_later hbw a3
        have hnx := idxs_next (sessP s) h.2.2 k
        have hil := idxs_len (sessP s) h.2.2 k
        have hbx := hbw.alloc hbw.size (.cells #[.int .i64 (h.2.2.getD k noTxn).1, .int .i64 (h.2.2.getD k noTxn).2.1, .slice p3 n3 c3] 56)
        obtain ⟨I, hI⟩ : ∃ I, idxs (sessP s) h.2.2 k = I := ⟨_, rfl⟩
        rw [hI] at hown hnx hil
        obtain ⟨t, ht⟩ : ∃ t, h.2.2.getD k noTxn = t := ⟨_, rfl⟩
        rw [ht] at a1' a2' hnx hbx
        have HBX0 := Lib.hid hbx
        have HC := Lib.hid (sess1_any t (.slice p3 n3 c3) s B _ (cell_later hbx HSs.out))
        obtain ⟨t1, t2, t3⟩ := t
        simp only at a1' a2' hnx HC hbx
        have HBX := Lib.hid hbx
        obtain ⟨b, hb⟩ : ∃ b, (sessP s) (t1, t2, t3) = b := ⟨_, rfl⟩
        rw [hb] at hnx HC
        have HN : RowKit.Hid ((b = true → idxs (sessP s) h.2.2 (k + 1) = I ++ [(k : Int)]) ∧ (b = false → idxs (sessP s) h.2.2 (k + 1) = I)) := Lib.hid ⟨fun e => by rw [hnx, if_pos e], fun e => by rw [hnx, if_neg (by rw [e]; exact Bool.false_ne_true)]⟩
        clear a1 a2 a3 ht hI hb hnx hbx
        cases b with
        | false =>
          go_wp2_with fail
          refine HC.out.mono ?_
          rintro e w3 ⟨rfl, hb3⟩
          have hown3 := owns_later (hown.alloc _) hb3
          have hbw3 := below_next HBX.out hb3
          clear hb3 hown
          go_wp2_with fail
          go_roundw
          case rel => exact ⟨k + 1, by omega, by go_num, by rw [HN.out.2 (by trivial)]; exact hown3, hbw3⟩
          case measure => simp [RowKit.intOf]; omega
        | true =>
          go_wp2_with fail
          refine HC.out.mono ?_
          rintro e w3 ⟨rfl, hb3⟩
          have hown3 := owns_later (hown.alloc _) hb3
          have hbw3 := below_next HBX.out hb3
          clear hb3 hown
          go_wp2_with (at_builtin; refine wpList_append_own _ rfl _ _ 27 rfl w.heap.size 3 i0 (.int .i64 0) 1 8 Tryd.underlying27 hi hz0 hz1 hz2 rfl (by decide) _ _ _ rfl (hown3.alloc _) ⟨w3.heap.size, 0, none⟩ 1 1 [.int .i64 (k : Nat)] rfl rfl (news_int _ _ _) (ones_int _) (by unfold maxLen; omega) (by omega) (by have := hbw3.size; simp; omega) ?_)
          intro v4 w4 hown4 hgrow hnil
          have hb4 : Below w.heap.size w w4 := (hbw3.alloc hbw3.size _).grown hgrow (by have := hbw3.size; simp; omega) (fun k hk => (hown3.lt k hk).1)
          have HO : RowKit.Hid (w4.ownsRow w.heap.size 3 1 v4 (idxs (sessP s) h.2.2 (k + 1)).length (vints (idxs (sessP s) h.2.2 (k + 1)))) := Lib.hid (by rw [HN.out.1 (by trivial), ← vints_snoc, List.length_append]; exact hown4)
          clear hown4 hgrow hnil hown3 hbw3
          go_wp2_with fail
          go_roundw
          case rel => exact ⟨k + 1, by omega, by go_num, HO.out, hb4⟩
          case measure => simp [RowKit.intOf]; omega
      · have hke : k = h.2.2.length := by omega
        subst hke
        have HO := Lib.hid (own_intsI hown)
        clear hown
        go_wp2_with fail
        go_ret
        exact ⟨_, rfl, by rw [HW.out]; exact HO.out, hbw⟩

set_option maxRecDepth 100000 in
set_option maxHeartbeats 4000000 in
theorem where_infos (v0 v1 v2 : Value) (h : HistM) (w : World) (h0 : Texts w v0 h.1) (h1 : Texts w v1 h.2.1) (h2 : TxnsS w v2 h.2.2) (hm : Modst h) (hT : Lib.Utf8Tabs 0 1 w) :
    Calls Tryd.prog 41 #[.agg #[v0, v1, v2], .func (.func 42) #[] #[]] w fun e w' => ∃ v', e = .returned v' ∧ IntsS w' v' (whereL (infosP) h) ∧ Below w.heap.size w w' := by
  have HMay := Lib.hid (fun w' (hb : Below w.heap.size w w') => hmay_any v0 v1 v2 h w' (h0.below hb) (h1.below hb) (h2.below hb) hm (Utf8Tabs_below hT hb))
  have HMod := Lib.hid hm
  obtain ⟨p2, c2, rfl, hp⟩ := h2
  obtain ⟨p0, c0, rfl, -⟩ := h0
  obtain ⟨p1, c1, rfl, -⟩ := h1
  have HX := Lib.hid hp
  have m3 : h.2.2.length ≤ 1000 := hm.2.2.1
  obtain ⟨i0, hi, hz0, hz1, hz2⟩ := info_parts info_i64
  have en := enters_of Tryd.func42 (by kernel_rfl) rfl
  have b0 := Blk.new w 25 [.slice p0 h.1.length c0, .slice p1 h.2.1.length c1, .slice p2 h.2.2.length c2]
  have hb0 : Below w.heap.size w (w.alloc (.cells #[.slice p0 h.1.length c0, .slice p1 h.2.1.length c1, .slice p2 h.2.2.length c2] 25)) := (Below.refl _ w).alloc (Nat.le_refl _) _
  have HB0 := Lib.hid hb0
  have B0 := Lib.hid b0
  clear hp hm hT b0 hb0
  go_enter Tryd.func41, Tryd.ntmps41
  go_wp2_with fail
  refine (HMay.out _ HB0.out).mono ?_
  rintro e w1 ⟨rfl, hb1⟩
  have hbw1 := below_next HB0.out hb1
  have d0 := B0.out.later hb1
  have x2 := d0.cell 2 rfl
  clear d0 hb1
  cases hmm : mayH h with
  | false =>
    have HE := Lib.hid (err_no hmm)
    have HW := Lib.hid (whereL_no (infosP) hmm)
    clear hmm
    rw [HE.out]
    go_wp2_with fail
    go_ret
    exact ⟨_, rfl, by rw [HW.out]; exact ints_none _, hbw1⟩
  | true =>
    have HE := Lib.hid (err_yes hmm)
    have HW := Lib.hid (whereL_yes (infosP) hmm)
    clear hmm
    rw [HE.out]
    go_wp2_with fail
    go_loopw [5, 14] (fun l i wr => ∃ k : Nat, k ≤ h.2.2.length ∧ i = .int .i64 k ∧ wr.ownsRow w.heap.size 3 1 l (idxs (infosP) h.2.2 k).length (vints (idxs (infosP) h.2.2 k)) ∧ Below w.heap.size w wr) (fun _ i _ => h.2.2.length - (RowKit.intOf i).toNat)
    case atStart => exact ⟨0, Nat.zero_le _, rfl, World.ownsRow_nil _ _ _ _, hbw1⟩
    case round =>
      obtain ⟨k, hk, rfl, hown, hbw⟩ := hrel
      by_cases hk1 : k < h.2.2.length
      · obtain ⟨g, sv, rfl, a1, a2, a3, ⟨p3, c3, rfl, -⟩⟩ := HX.out k hk1
        generalize (h.2.2.getD k noTxn).2.2.length = n3 at a3
        have a1' := cell_later hbw a1
        have a2' := cell_later hbw a2
        have a3' := cell_later hbw a3
        have hnx := idxs_next (infosP) h.2.2 k
        have hil := idxs_len (infosP) h.2.2 k
        have hbx := hbw.alloc hbw.size (.cells #[.int .i64 (h.2.2.getD k noTxn).1, .int .i64 (h.2.2.getD k noTxn).2.1, .slice p3 n3 c3] 56)
        obtain ⟨I, hI⟩ : ∃ I, idxs (infosP) h.2.2 k = I := ⟨_, rfl⟩
        rw [hI] at hown hnx hil
        obtain ⟨t, ht⟩ : ∃ t, h.2.2.getD k noTxn = t := ⟨_, rfl⟩
        rw [ht] at a1' a2' hnx hbx
        have HC := Lib.hid (infos1_any t (.slice p3 n3 c3) (wr.alloc (.cells #[.int .i64 t.1, .int .i64 t.2.1, .slice p3 n3 c3] 56)))
        obtain ⟨t1, t2, t3⟩ := t
        simp only at a1' a2' hnx HC hbx
        have HBX := Lib.hid hbx
        obtain ⟨b, hb⟩ : ∃ b, (infosP) (t1, t2, t3) = b := ⟨_, rfl⟩
        rw [hb] at hnx HC
        have HN : RowKit.Hid ((b = true → idxs (infosP) h.2.2 (k + 1) = I ++ [(k : Int)]) ∧ (b = false → idxs (infosP) h.2.2 (k + 1) = I)) := Lib.hid ⟨fun e => by rw [hnx, if_pos e], fun e => by rw [hnx, if_neg (by rw [e]; exact Bool.false_ne_true)]⟩
        clear a1 a2 a3 ht hI hb hnx hbx
        cases b with
        | false =>
          go_wp2_with fail
          refine HC.out.mono ?_
          rintro e w3 ⟨rfl, hb3⟩
          have hown3 := owns_later (hown.alloc _) hb3
          have hbw3 := below_next HBX.out hb3
          clear hb3 hown
          go_wp2_with fail
          go_roundw
          case rel => exact ⟨k + 1, by omega, by go_num, by rw [HN.out.2 (by trivial)]; exact hown3, hbw3⟩
          case measure => simp [RowKit.intOf]; omega
        | true =>
          go_wp2_with fail
          refine HC.out.mono ?_
          rintro e w3 ⟨rfl, hb3⟩
          have hown3 := owns_later (hown.alloc _) hb3
          have hbw3 := below_next HBX.out hb3
          clear hb3 hown
          go_wp2_with (at_builtin; refine wpList_append_own _ rfl _ _ 27 rfl w.heap.size 3 i0 (.int .i64 0) 1 8 Tryd.underlying27 hi hz0 hz1 hz2 rfl (by decide) _ _ _ rfl (hown3.alloc _) ⟨w3.heap.size, 0, none⟩ 1 1 [.int .i64 (k : Nat)] rfl rfl (news_int _ _ _) (ones_int _) (by unfold maxLen; omega) (by omega) (by have := hbw3.size; simp; omega) ?_)
          intro v4 w4 hown4 hgrow hnil
          have hb4 : Below w.heap.size w w4 := (hbw3.alloc hbw3.size _).grown hgrow (by have := hbw3.size; simp; omega) (fun k hk => (hown3.lt k hk).1)
          have HO : RowKit.Hid (w4.ownsRow w.heap.size 3 1 v4 (idxs (infosP) h.2.2 (k + 1)).length (vints (idxs (infosP) h.2.2 (k + 1)))) := Lib.hid (by rw [HN.out.1 (by trivial), ← vints_snoc, List.length_append]; exact hown4)
          clear hown4 hgrow hnil hown3 hbw3
          go_wp2_with fail
          go_roundw
          case rel => exact ⟨k + 1, by omega, by go_num, HO.out, hb4⟩
          case measure => simp [RowKit.intOf]; omega
      · have hke : k = h.2.2.length := by omega
        subst hke
        have HO := Lib.hid (own_intsI hown)
        clear hown
        go_wp2_with fail
        go_ret
        exact ⟨_, rfl, by rw [HW.out]; exact HO.out, hbw⟩

set_option maxRecDepth 100000 in
set_option maxHeartbeats 1000000 in
theorem session_any (v0 v1 v2 : Value) (h : HistM) (s : Int) (w : World) (h0 : Texts w v0 h.1) (h1 : Texts w v1 h.2.1) (h2 : TxnsS w v2 h.2.2) (hm : Modst h) (hT : Lib.Utf8Tabs 0 1 w) :
    Calls Tryd.prog 21 #[.agg #[v0, v1, v2], .int .i64 s] w fun e w' => ∃ v', e = .returned v' ∧ IntsS w' v' (whereL (sessP s) h) ∧ Below w.heap.size w w' := by
  have hb : Below w.heap.size w ((w.alloc (.cells #[v0, v1, v2] 25)).alloc (.cells #[.int .i64 s] 3)) := ((Below.refl _ w).alloc (Nat.le_refl _) _).alloc (by simp) _
  have b1 := Blk.new (w.alloc (.cells #[v0, v1, v2] 25)) 3 [.int .i64 s]
  simp only [World.size_alloc] at b1
  have H1 := Lib.hid (where_sess v0 v1 v2 h s (w.heap.size + 1) _ (h0.below hb) (h1.below hb) (h2.below hb) hm (Utf8Tabs_below hT hb) (b1.cell 0 rfl))
  have HB := Lib.hid hb
  obtain ⟨p2, c2, rfl, -⟩ := h2
  obtain ⟨p0, c0, rfl, -⟩ := h0
  obtain ⟨p1, c1, rfl, -⟩ := h1
  clear hb b1 hm hT
  go_enter Tryd.func21, Tryd.ntmps21
  go_wp2_with fail
  refine H1.out.mono ?_
  rintro e w3 ⟨v', rfl, hv, hb3⟩
  have HV := Lib.hid hv
  clear hv
  go_wp2_with fail
  go_ret
  exact ⟨_, rfl, HV.out, below_next HB.out hb3⟩
set_option maxRecDepth 100000 in
set_option maxHeartbeats 1000000 in
theorem infos_any (v0 v1 v2 : Value) (h : HistM) (w : World) (h0 : Texts w v0 h.1) (h1 : Texts w v1 h.2.1) (h2 : TxnsS w v2 h.2.2) (hm : Modst h) (hT : Lib.Utf8Tabs 0 1 w) :
    Calls Tryd.prog 15 #[.agg #[v0, v1, v2]] w fun e w' => ∃ v', e = .returned v' ∧ IntsS w' v' (whereL infosP h) ∧ Below w.heap.size w w' := by
  have hb : Below w.heap.size w (w.alloc (.cells #[v0, v1, v2] 25)) := (Below.refl _ w).alloc (Nat.le_refl _) _
  have H1 := Lib.hid (where_infos v0 v1 v2 h _ (h0.below hb) (h1.below hb) (h2.below hb) hm (Utf8Tabs_below hT hb))
  have HB := Lib.hid hb
  obtain ⟨p2, c2, rfl, -⟩ := h2
  obtain ⟨p0, c0, rfl, -⟩ := h0
  obtain ⟨p1, c1, rfl, -⟩ := h1
  clear hb hm hT
  go_enter Tryd.func15, Tryd.ntmps15
  go_wp2_with fail
  refine H1.out.mono ?_
  rintro e w3 ⟨v', rfl, hv, hb3⟩
  have HV := Lib.hid hv
  clear hv
  go_wp2_with fail
  go_ret
  exact ⟨_, rfl, HV.out, below_next HB.out hb3⟩
end Go.Proofs.YthalbcmlehpfaaaDoor
