/-
  The walks of layer 11 (hist), the program: whether the tables may be, whether all transactions may be. No conditions but that unicode/utf8's two tables are as their initialisers lay them.
-/
import Derived.Test.YthalbcmlehpfaaaDoorHistA
namespace Go.Proofs.YthalbcmlehpfaaaDoor
open Go.RowKit Go.Lib

/-- Not too great a history. -/
def Modst (h : HistM) : Prop := h.1.length ≤ 1000 ∧ h.2.1.length ≤ 1000 ∧ h.2.2.length ≤ 1000 ∧ (∀ x ∈ h.1, x.length ≤ 1000000) ∧ (∀ x ∈ h.2.1, x.length ≤ 1000000) ∧ ∀ t ∈ h.2.2, t.2.2.length ≤ 1000
/-- A history in a block of its own: its three cells. -/
def Three (w : World) (B : Nat) (v0 v1 v2 : Value) : Prop := w.cell? ⟨B, 0, none⟩ = some v0 ∧ w.cell? ⟨B, 1, none⟩ = some v1 ∧ w.cell? ⟨B, 2, none⟩ = some v2
theorem Three.below {w w' : World} {B : Nat} {v0 v1 v2 : Value} (h : Three w B v0 v1 v2) (hb : Below w.heap.size w w') : Three w' B v0 v1 v2 := ⟨cell_later hb h.1, cell_later hb h.2.1, cell_later hb h.2.2⟩
theorem three_new (w : World) (v0 v1 v2 : Value) (t : TypeId) : Three (w.alloc (.cells #[v0, v1, v2] t)) w.heap.size v0 v1 v2 := by
  have hr := heap_alloc_new w (.cells #[v0, v1, v2] t)
  exact ⟨by rw [cell_of_row _ _ 0 _ _ (0, 0) hr]; rfl, by rw [cell_of_row _ _ 1 _ _ (0, 0) hr]; rfl, by rw [cell_of_row _ _ 2 _ _ (0, 0) hr]; rfl⟩
theorem below_box {w w2 : World} {A : Obj} (h : Below (w.heap.size + 1) (w.alloc A) w2) : Below w.heap.size w w2 :=
  below_next ((Below.refl _ _).alloc (Nat.le_refl _) A) (by simpa using h)

set_option maxRecDepth 100000 in
set_option maxHeartbeats 2000000 in
theorem heads_any (v0 v1 v2 : Value) (h : HistM) (w : World) (h0 : Texts w v0 h.1) (h1 : Texts w v1 h.2.1) (h2 : TxnsS w v2 h.2.2) (hm : Modst h) (hT : Lib.Utf8Tabs 0 1 w) :
    Calls Tryd.prog 45 #[.agg #[v0, v1, v2]] w fun e w' => e = .returned (.bool (okHeads h)) ∧ Below w.heap.size w w' := by
  obtain ⟨m1, m2, -, m3, m4, -⟩ := hm
  have H1 := Lib.hid (fun w' (hw : Texts w' v0 h.1) hT' => tis_any w' v0 h.1 hw (by omega) m3 hT')
  have H2 := Lib.hid (fun w' (hw : Texts w' v1 h.2.1) hT' => tis_any w' v1 h.2.1 hw (by omega) m4 hT')
  have HT := Lib.hid hT
  have T0 := Lib.hid h0
  have T1 := Lib.hid h1
  obtain ⟨p0, c0, e0, -⟩ := h0
  obtain ⟨p1, c1, e1, -⟩ := h1
  obtain ⟨p2, c2, e2, -⟩ := h2
  unfold okHeads
  generalize h.1.length = n0 at *
  generalize h.2.1.length = n1 at *
  generalize h.2.2.length = n2 at *
  generalize isT h.1 = I at *
  generalize isT h.2.1 = J at *
  have E0 := Lib.hid e0
  have E1 := Lib.hid e1
  have E2 := Lib.hid e2
  clear e0 e1 e2
  have hal := (Below.refl w.heap.size w).alloc (Nat.le_refl _) (.cells #[v0, v1, v2] 25)
  have h3 := three_new w v0 v1 v2 25
  have HA := Lib.hid hal
  have H3 := Lib.hid h3
  clear m3 m4 hT hal h3
  cases I with
  | false =>
    go_enter Tryd.func45, Tryd.ntmps45
    go_wp2_with fail
    refine (H1.out _ (T0.out.below HA.out) (Utf8Tabs_below HT.out HA.out)).mono ?_
    rintro e w1 ⟨rfl, hb1⟩
    go_wp2_with fail
    go_ret
    exact ⟨rfl, below_next HA.out hb1⟩
  | true =>
    cases J with
    | false =>
      go_enter Tryd.func45, Tryd.ntmps45
      go_wp2_with fail
      refine (H1.out _ (T0.out.below HA.out) (Utf8Tabs_below HT.out HA.out)).mono ?_
      rintro e w1 ⟨rfl, hb1⟩
      obtain ⟨q0, q1, q2⟩ := H3.out.below hb1
      have hbw := below_next HA.out hb1
      clear hb1
      go_wp2_with fail
      refine (H2.out _ (T1.out.below hbw) (Utf8Tabs_below HT.out hbw)).mono ?_
      rintro e w2 ⟨rfl, hb2⟩
      go_wp2_with fail
      go_ret
      exact ⟨rfl, below_next hbw hb2⟩
    | true =>
      by_cases c1 : n0 ≤ 20
      · by_cases c2 : n1 ≤ 40
        · have d1 : decide (n0 ≤ 20) = true := decide_eq_true c1
          have i1 : decide ((n0 : Int) ≤ 20) = true := decide_eq_true (by omega)
          have d2 : decide (n1 ≤ 40) = true := decide_eq_true c2
          have i2 : decide ((n1 : Int) ≤ 40) = true := decide_eq_true (by omega)
          rw [d1, d2]
          go_enter Tryd.func45, Tryd.ntmps45
          go_wp2_with fail
          refine (H1.out _ (T0.out.below HA.out) (Utf8Tabs_below HT.out HA.out)).mono ?_
          rintro e w1 ⟨rfl, hb1⟩
          obtain ⟨q0, q1, q2⟩ := H3.out.below hb1
          have hbw := below_next HA.out hb1
          have H4 := Lib.hid (H3.out.below hb1)
          clear hb1
          go_wp2_with fail
          refine (H2.out _ (T1.out.below hbw) (Utf8Tabs_below HT.out hbw)).mono ?_
          rintro e w2 ⟨rfl, hb2⟩
          obtain ⟨r0, r1, r2⟩ := H4.out.below hb2
          have e0 := E0.out
          have e1 := E1.out
          have e2 := E2.out
          subst e0 e1 e2
          have hbw2 := below_next hbw hb2
          clear hb2 q0 q1 q2 hbw
          go_wp2_with fail
          go_ret
          exact ⟨by simp; try omega, hbw2⟩
        · have d1 : decide (n0 ≤ 20) = true := decide_eq_true c1
          have i1 : decide ((n0 : Int) ≤ 20) = true := decide_eq_true (by omega)
          have d2 : decide (n1 ≤ 40) = false := decide_eq_false c2
          have i2 : decide ((n1 : Int) ≤ 40) = false := decide_eq_false (by omega)
          rw [d1, d2]
          go_enter Tryd.func45, Tryd.ntmps45
          go_wp2_with fail
          refine (H1.out _ (T0.out.below HA.out) (Utf8Tabs_below HT.out HA.out)).mono ?_
          rintro e w1 ⟨rfl, hb1⟩
          obtain ⟨q0, q1, q2⟩ := H3.out.below hb1
          have hbw := below_next HA.out hb1
          have H4 := Lib.hid (H3.out.below hb1)
          clear hb1
          go_wp2_with fail
          refine (H2.out _ (T1.out.below hbw) (Utf8Tabs_below HT.out hbw)).mono ?_
          rintro e w2 ⟨rfl, hb2⟩
          obtain ⟨r0, r1, r2⟩ := H4.out.below hb2
          have e0 := E0.out
          have e1 := E1.out
          have e2 := E2.out
          subst e0 e1 e2
          have hbw2 := below_next hbw hb2
          clear hb2 q0 q1 q2 hbw
          go_wp2_with fail
          go_ret
          exact ⟨rfl, hbw2⟩
      · have d1 : decide (n0 ≤ 20) = false := decide_eq_false c1
        have i1 : decide ((n0 : Int) ≤ 20) = false := decide_eq_false (by omega)
        rw [d1]
        go_enter Tryd.func45, Tryd.ntmps45
        go_wp2_with fail
        refine (H1.out _ (T0.out.below HA.out) (Utf8Tabs_below HT.out HA.out)).mono ?_
        rintro e w1 ⟨rfl, hb1⟩
        obtain ⟨q0, q1, q2⟩ := H3.out.below hb1
        have hbw := below_next HA.out hb1
        have H4 := Lib.hid (H3.out.below hb1)
        clear hb1
        go_wp2_with fail
        refine (H2.out _ (T1.out.below hbw) (Utf8Tabs_below HT.out hbw)).mono ?_
        rintro e w2 ⟨rfl, hb2⟩
        obtain ⟨r0, r1, r2⟩ := H4.out.below hb2
        have e0 := E0.out
        have e1 := E1.out
        have e2 := E2.out
        subst e0 e1 e2
        have hbw2 := below_next hbw hb2
        clear hb2 q0 q1 q2 hbw
        go_wp2_with fail
        go_ret
        exact ⟨rfl, hbw2⟩

/-! ### Transactions that may not be -/
set_option maxRecDepth 100000 in
set_option maxHeartbeats 1000000 in
theorem may1_any (v0 v1 v2 sv : Value) (S : List (List UInt8)) (t : TxnM) (B : Nat) (w : World) (hB : Three w B v0 v1 v2) (h0 : Texts w v0 S) (hs : OpsS w sv t.2.2) :
    Calls Tryd.prog 47 #[.agg #[.int .i64 t.1, .int .i64 t.2.1, sv], .pointer (some ⟨B, 0, none⟩)] w fun e w' => e = .returned (.bool (!okTxn S.length t)) ∧ Below w.heap.size w w' := by
  have H1 := Lib.hid (fun w' (a : Texts w' v0 S) (b : OpsS w' sv t.2.2) => txn_any v0 v1 v2 sv S t w' a b)
  have hal := (Below.refl w.heap.size w).alloc (Nat.le_refl _) (.cells #[.int .i64 t.1, .int .i64 t.2.1, sv] 56)
  have HA := Lib.hid hal
  have T0 := Lib.hid h0
  have TS := Lib.hid hs
  obtain ⟨q0, q1, q2⟩ := hB.below hal
  obtain ⟨a, b, l⟩ := t
  simp only at H1 TS HA ⊢
  clear h0 hs hB hal
  go_enter Tryd.func47, Tryd.ntmps47
  go_wp2_with fail
  refine (H1.out _ (T0.out.below HA.out) (TS.out.below HA.out)).mono ?_
  rintro e w1 ⟨rfl, hb1⟩
  go_wp2_with fail
  go_ret
  exact ⟨rfl, below_next HA.out hb1⟩

set_option maxRecDepth 100000 in
set_option maxHeartbeats 2000000 in
theorem indexfunc_any (v0 v1 v2 v : Value) (S : List (List UInt8)) (L : List TxnM) (B : Nat) (w : World) (hB : Three w B v0 v1 v2) (h0 : Texts w v0 S) (hv : TxnsS w v L) (hL : L.length ≤ 1000) :
    Calls Tryd.prog 68 #[v, .func (.func 47) #[] #[.pointer (some ⟨B, 0, none⟩)]] w fun e w' => ∃ i : Int, e = .returned (.int .i64 i) ∧ decide (0 ≤ i) = !(L.all (okTxn S.length)) ∧ Below w.heap.size w w' := by
  obtain ⟨p, c, rfl, hp⟩ := hv
  have HX := Lib.hid hp
  have H3 := Lib.hid hB
  have T0 := Lib.hid h0
  have en := enters_of Tryd.func47 (by kernel_rfl) rfl
  have HYes : RowKit.Hid (∀ k : Nat, k < L.length → okTxn S.length (L.getD k noTxn) = false → decide ((0 : Int) ≤ (k : Int)) = !(L.all (okTxn S.length))) := Lib.hid (fun k hk hf => by
    have : L.all (okTxn S.length) = false := by
      rw [List.all_eq_false]
      refine ⟨L.getD k noTxn, ?_, by rw [hf]; exact Bool.false_ne_true⟩
      have : L.getD k noTxn = L[k] := by simp [hk]
      rw [this]
      exact List.getElem_mem hk
    rw [this]
    simp)
  have HNo : RowKit.Hid ((∀ k : Nat, k < L.length → okTxn S.length (L.getD k noTxn) = true) → decide ((0 : Int) ≤ -1) = !(L.all (okTxn S.length))) := Lib.hid (fun h => by
    have : L.all (okTxn S.length) = true := by
      rw [List.all_eq_true]
      intro x hx
      obtain ⟨k, hk, e⟩ := List.getElem_of_mem hx
      have := h k hk
      simpa [hk, e] using this
    rw [this]
    rfl)
  generalize (!(L.all (okTxn S.length))) = R at *
  clear hp hB h0
  go_enter Tryd.func68, Tryd.ntmps68
  go_wp2_with fail
  go_loopw [8] (fun i wr => ∃ k : Nat, k ≤ L.length ∧ i = .int .i64 k ∧ (∀ j, j < k → okTxn S.length (L.getD j noTxn) = true) ∧ Below w.heap.size w wr) (fun i _ => L.length - (RowKit.intOf i).toNat)
  case atStart => exact ⟨0, Nat.zero_le _, rfl, fun j hj => absurd hj (Nat.not_lt_zero j), Below.refl _ _⟩
  case round =>
    obtain ⟨k, hk, rfl, hn, hbw⟩ := hrel
    have HN := Lib.hid hn
    clear hn
    by_cases hk1 : k < L.length
    · obtain ⟨g, sv, rfl, a1, a2, a3, a4⟩ := HX.out k hk1
      have a1' := cell_later hbw a1
      have a2' := cell_later hbw a2
      have a3' := cell_later hbw a3
      have HM := Lib.hid (may1_any v0 v1 v2 sv S (L.getD k noTxn) B wr (H3.out.below hbw) (T0.out.below hbw) (a4.below hbw))
      have HY := Lib.hid (HYes.out k hk1)
      have HK : RowKit.Hid (okTxn S.length (L.getD k noTxn) = true → ∀ j, j < k + 1 → okTxn S.length (L.getD j noTxn) = true) := Lib.hid (fun h j hj => by
        by_cases hjk : j < k
        · exact HN.out j hjk
        · obtain rfl : j = k := by omega
          exact h)
      obtain ⟨b, hb⟩ : ∃ b, okTxn S.length (L.getD k noTxn) = b := ⟨_, rfl⟩
      rw [hb] at HM HY HK
      obtain ⟨t, ht⟩ : ∃ t, L.getD k noTxn = t := ⟨_, rfl⟩
      rw [ht] at HM a1' a2'
      obtain ⟨t1, t2, t3⟩ := t
      simp only at HM a1' a2'
      clear a1 a2 a3 a4 hb ht
      cases b with
      | false =>
        go_wp2_with (first | (go_at_call 47; refine HM.out.mono ?_; rintro e w1 ⟨rfl, hb1⟩))
        go_ret
        exact ⟨_, rfl, HY.out trivial, below_next hbw hb1⟩
      | true =>
        go_wp2_with (first | (go_at_call 47; refine HM.out.mono ?_; rintro e w1 ⟨rfl, hb1⟩))
        go_roundw
        case rel => exact ⟨k + 1, by omega, by go_num, HK.out trivial, below_next hbw hb1⟩
        case measure => simp [RowKit.intOf]; omega
    · have hke : k = L.length := by omega
      subst hke
      have H1 := Lib.hid (HNo.out HN.out)
      go_wp2_with fail
      go_ret
      exact ⟨_, rfl, H1.out, hbw⟩

set_option maxRecDepth 100000 in
set_option maxHeartbeats 1000000 in
theorem containsfunc_any (v0 v1 v2 v : Value) (S : List (List UInt8)) (L : List TxnM) (B : Nat) (w : World) (hB : Three w B v0 v1 v2) (h0 : Texts w v0 S) (hv : TxnsS w v L) (hL : L.length ≤ 1000) :
    Calls Tryd.prog 46 #[v, .func (.func 47) #[] #[.pointer (some ⟨B, 0, none⟩)]] w fun e w' => e = .returned (.bool (!(L.all (okTxn S.length)))) ∧ Below w.heap.size w w' := by
  have H1 := Lib.hid (indexfunc_any v0 v1 v2 v S L B w hB h0 hv hL)
  generalize (!(L.all (okTxn S.length))) = R at *
  clear hB h0 hv hL
  go_enter Tryd.func46, Tryd.ntmps46
  go_wp2_with fail
  refine H1.out.mono ?_
  rintro e w1 ⟨i, rfl, hi, hb1⟩
  have HI := Lib.hid hi
  clear hi
  go_wp2_with fail
  go_ret
  refine ⟨?_, hb1⟩
  rw [← HI.out]
  rfl
end Go.Proofs.YthalbcmlehpfaaaDoor
