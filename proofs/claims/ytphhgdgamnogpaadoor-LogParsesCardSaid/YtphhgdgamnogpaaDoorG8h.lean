/-
  The statements of layer 8 (log), walked. Conditions: unicode/utf8's two tables, and event.words, hold what their initialisers lay, internal/bytealg.MaxLen holds a number.
-/
import Derived.Test.YtphhgdgamnogpaaDoorG8f
import Derived.Test.YtphhgdgamnogpaaDoorG8g
namespace Go.Proofs.YtphhgdgamnogpaaDoor
open Go.RowKit Go.Lib

theorem rlog_any (l : List UInt8) (hl : l.length ≤ 1000000) (w : World) :
    Calls Tryd.prog 29 #[.string (bs l)] w fun e w' => ∃ v, e = .returned (.tuple #[v, .int .i64 (readL l).2.1, .int .i64 (readL l).2.2]) ∧ EvsS w' v (readL l).1 ∧ Below w.heap.size w w' :=
  rlog_of (fun t ht w' => reparse_any t ht w') l hl w
theorem logGo_len : ∀ (r : List (List UInt8)) (i : Nat) (out : List EventM), out.length ≤ 1000 → (logGo r i out).1.length ≤ 1000
  | [], _, out, h => h
  | t :: r, i, out, h => by
    unfold logGo
    split
    · simp
    · split
      · exact logGo_len r _ _ h
      · split
        · simp
        · exact logGo_len r _ _ (by simp; omega)
theorem readL_len (l : List UInt8) : (readL l).1.length ≤ 1000 := by
  unfold readL
  split
  · simp
  · exact logGo_len _ _ _ (by simp)
theorem lshort8_any (l : List UInt8) (hs : l.length ≤ 9223372036854775807) (w : World) :
    Calls Tryd.prog 27 #[.string (bs l)] w fun e w' => e = .returned (.string (bs (l.take 12000))) ∧ w = w' := by
  have e : l.take (min (l.length : Int) 12000).toNat = l.take 12000 := by
    by_cases h : l.length ≤ 12000
    · rw [show (min (l.length : Int) 12000).toNat = l.length by omega, List.take_length, List.take_of_length_le h]
    · rw [show (min (l.length : Int) 12000).toNat = 12000 by omega]
  have E := Lib.hid e
  clear e
  go_enter Tryd.func27, Tryd.ntmps27
  go_wp2
  go_ret
  refine ⟨?_, rfl⟩
  rw [← E.out]
  rfl

instance : DecidableEq EventM := inferInstance
theorem exL1 : readL [98, 101, 103, 105, 110, 32, 115, 10, 10, 111, 107, 32, 115] = ([(1, [115], [], 0, 0, 1), (4, [115], [], 0, 0, 3)], 0, 0) := by decide +kernel
set_option maxRecDepth 100000 in
set_option maxHeartbeats 2000000 in
theorem lworks8_any (w : World) (hT : Lib.Utf8Tabs 4 5 w) (hm : HasMax w) (hE : EvTab w) :
    Calls Tryd.prog 31 #[] w fun e w' => e = .returned (.bool true) ∧ Below w.heap.size w w' := by
  have H1 := Lib.hid (log_any [98, 101, 103, 105, 110, 32, 115, 10, 10, 111, 107, 32, 115] (by decide) w hT hm hE)
  rw [exL1] at H1
  clear hT hm hE
  go_enter Tryd.func31, Tryd.ntmps31
  go_wp2_with fail
  refine H1.out.mono ?_
  rintro e w1 ⟨v, rfl, hv, hb1⟩
  obtain ⟨p, c, rfl, hc⟩ := hv
  obtain ⟨g, rfl, h1⟩ := hc 1 (by decide)
  have a0 := h1 0 _ rfl
  have a1 := h1 1 _ rfl
  have a2 := h1 2 _ rfl
  have a3 := h1 3 _ rfl
  have a4 := h1 4 _ rfl
  have a5 := h1 5 _ rfl
  simp only [Nat.reduceMul, Nat.reduceAdd] at a0 a1 a2 a3 a4 a5
  clear h1 hc
  go_wp2_with fail
  go_ret
  exact ⟨rfl, hb1⟩

set_option maxRecDepth 100000 in
set_option maxHeartbeats 2000000 in
theorem logparses_any (l : List UInt8) (hs : l.length ≤ 9223372036854775807) (w : World) (hT : Lib.Utf8Tabs 4 5 w) (hm : HasMax w) (hE : EvTab w) :
    Calls Tryd.prog 6 #[.string (bs l)] w fun e w' => e = .returned (.bool true) ∧ Below w.heap.size w w' := by
  have HS := Lib.hid (lshort8_any l hs w)
  have hl : (l.take 12000).length ≤ 1000000 := by simp; omega
  have H1 := Lib.hid (log_any (l.take 12000) hl w hT hm hE)
  have H2 := Lib.hid (fun w' => rlog_any (l.take 12000) hl w')
  have HW := Lib.hid (fun w' (h : Below w.heap.size w w') => lworks8_any w' (Utf8Tabs_below hT h) (hm.below h) (hE.below h))
  have hn := readL_len (l.take 12000)
  have HSa := Lib.hid (fun v v' w' (h : EvsS w' v (readL (l.take 12000)).1) (h' : EvsS w' v' (readL (l.take 12000)).1) => rsame08_any v v' _ _ w' h h' (by omega) (by omega))
  obtain ⟨⟨R, n, e⟩, hR⟩ : ∃ R, readL (l.take 12000) = R := ⟨_, rfl⟩
  rw [hR] at H1 H2 HSa
  simp only [decide_true] at HSa
  simp only at H1 H2
  clear hT hm hE hR hn hl
  go_enter Tryd.func6, Tryd.ntmps6
  go_wp2_with fail
  refine HS.out.mono ?_
  rintro e0 w0 ⟨rfl, rfl⟩
  go_wp2_with fail
  refine H1.out.mono ?_
  rintro e1 w1 ⟨v1, rfl, hv1, hb1⟩
  have HV1 := Lib.hid hv1
  clear hv1
  go_wp2_with fail
  refine (H2.out w1).mono ?_
  rintro e2 w2 ⟨v2, rfl, hv2, hb2⟩
  have HV2 := Lib.hid hv2
  clear hv2
  go_wp2_with fail
  refine (HSa.out _ _ w2 (HV1.out.below hb2) HV2.out).mono ?_
  rintro e3 w3 ⟨rfl, hb3⟩
  have hb := below_next (below_next hb1 hb2) hb3
  go_wp2_with fail
  refine (HW.out w3 hb).mono ?_
  rintro e4 w4 ⟨rfl, hb4⟩
  go_wp2_with fail
  go_ret
  exact ⟨rfl, below_next hb hb4⟩

/-- Events of a call's own, as the walks' slices and as an argument. -/
theorem few_both {L : List EventM} {w : World} {B : Nat} {v : Value} (hL : ∀ x ∈ L, x.2.1.length ≤ 9223372036854775807 ∧ x.2.2.1.length ≤ 9223372036854775807 ∧ NumE x) (h : w.ownsRow B 37 6 v (fewE L).length (evcs (fewE L))) : EvsS w v (fewE L) ∧ EvsA w v (fewE L) :=
  ⟨own_evs h, own_evsA h (fun x hx => by
    obtain ⟨h1, h2, h3⟩ := few_good hL x hx
    exact ⟨by omega, by omega, h3⟩)⟩
theorem few_mod {L : List EventM} (hL : ∀ x ∈ L, x.2.1.length ≤ 9223372036854775807 ∧ x.2.2.1.length ≤ 9223372036854775807 ∧ NumE x) : ModE (fewE L) := fun x hx => by
  obtain ⟨h1, h2, h3⟩ := few_good hL x hx
  exact ⟨by omega, by omega, h3⟩
theorem few8_again (v : Value) (L : List EventM) (w : World) (hv : EvsA w v (fewE L)) (hL : ∀ x ∈ L, x.2.1.length ≤ 9223372036854775807 ∧ x.2.2.1.length ≤ 9223372036854775807 ∧ NumE x) :
    Calls Tryd.prog 41 #[v] w fun e w' => ∃ v', e = .returned v' ∧ EvsS w' v' (fewE L) ∧ Below w.heap.size w w' := by
  refine (few8_any v (fewE L) w hv).mono ?_
  rintro e w' ⟨v', rfl, h, hb⟩
  rw [fewE_few] at h
  exact ⟨v', rfl, (few_both hL h).1, hb⟩

set_option maxRecDepth 100000 in
set_option maxHeartbeats 2000000 in
theorem logprints_any (v : Value) (L : List EventM) (q : Int) (w : World) (hv : EvsA w v L) (hT : Lib.Utf8Tabs 4 5 w) (hm : HasMax w) (hE : EvTab w) :
    Calls Tryd.prog 13 #[v, .int .i64 q] w fun e w' => e = .returned (.bool true) ∧ Below w.heap.size w w' := by
  have hL := evsA_all hv
  have hM := few_mod hL
  have hn := fewE_len L
  have HF := Lib.hid (few8_any v L w hv)
  have HB := Lib.hid (fun w' B v' h => few_both (w := w') (B := B) (v := v') hL h)
  have HG := Lib.hid (fun v' w' h => few8_again v' L w' h hL)
  have HP := Lib.hid (fun v' w' h (hb : Below w.heap.size w w') => logprint_any v' (fewE L) w' h (by omega) hM (Utf8Tabs_below hT hb) (hE.below hb))
  have HQ := Lib.hid (fun v' w' h => rlogprint_any v' (fewE L) w' h (by omega) hM)
  have HC := Lib.hid (fun v' w' h => count_any v' (fewE L) q w' h (by omega))
  have HD := Lib.hid (fun v' w' h => rcount_any v' (fewE L) q w' h (by omega))
  have HW := Lib.hid (fun w' (h : Below w.heap.size w w') => lworks8_any w' (Utf8Tabs_below hT h) (hm.below h) (hE.below h))
  generalize fewE L = M at *
  generalize countL M q = N at *
  generalize (writeL M).1 = T1 at *
  generalize (writeL M).2 = E1 at *
  clear hT hm hE hL hM hn hv
  go_enter Tryd.func13, Tryd.ntmps13
  go_wp2_with fail
  refine HF.out.mono ?_
  rintro e1 w1 ⟨v1, rfl, ho1, hb1⟩
  obtain ⟨hs1, ha1⟩ := HB.out _ _ _ ho1
  have HS1 := Lib.hid hs1
  have HA1 := Lib.hid ha1
  clear ho1 hs1 ha1
  go_wp2_with fail
  refine (HG.out _ _ HA1.out).mono ?_
  rintro e2 w2 ⟨v2, rfl, hs2, hb2⟩
  have HS2 := Lib.hid hs2
  have hB2 := below_next hb1 hb2
  have HS1b := Lib.hid (HS1.out.below hb2)
  have HA1b := Lib.hid (HA1.out.below hb2)
  clear hs2 hb1 hb2
  go_wp2_with fail
  refine (HP.out _ _ HS2.out hB2).mono ?_
  rintro e3 w3 ⟨rfl, hb3⟩
  have hB3 := below_next hB2 hb3
  have HS1c := Lib.hid (HS1b.out.below hb3)
  have HA1c := Lib.hid (HA1b.out.below hb3)
  clear hb3 hB2
  go_wp2_with fail
  refine (HQ.out _ _ HS1c.out).mono ?_
  rintro e4 w4 ⟨rfl, hb4⟩
  have hB4 := below_next hB3 hb4
  have HS1d := Lib.hid (HS1c.out.below hb4)
  have HA1d := Lib.hid (HA1c.out.below hb4)
  clear hb4 hB3
  go_wp2_with fail
  refine (HG.out _ _ HA1d.out).mono ?_
  rintro e5 w5 ⟨v5, rfl, hs5, hb5⟩
  have HS5 := Lib.hid hs5
  have hB5 := below_next hB4 hb5
  have HS1e := Lib.hid (HS1d.out.below hb5)
  clear hs5 hb5 hB4
  go_wp2_with fail
  refine (HC.out _ _ HS5.out).mono ?_
  rintro e6 w6 ⟨rfl, hb6⟩
  have hB6 := below_next hB5 hb6
  have HS1f := Lib.hid (HS1e.out.below hb6)
  clear hb6 hB5
  go_wp2_with fail
  refine (HD.out _ _ HS1f.out).mono ?_
  rintro e7 w7 ⟨rfl, hb7⟩
  have hB7 := below_next hB6 hb7
  clear hb7 hB6
  go_wp2_with fail
  refine (HW.out w7 hB7).mono ?_
  rintro e8 w8 ⟨rfl, hb8⟩
  go_wp2_with fail
  go_ret
  exact ⟨rfl, below_next hB7 hb8⟩

/-! ### events with their lines -/
def lineTo (L : List EventM) (k : Nat) : List EventM := lined (L.take k) 0 ++ L.drop k
theorem lined_len : ∀ (L : List EventM) (i : Nat), (lined L i).length = L.length
  | [], _ => rfl
  | x :: r, i => by simp [lined, lined_len r]
theorem lined_snoc : ∀ (L : List EventM) (i : Nat) (x : EventM), lined (L ++ [x]) i = lined L i ++ [onLine x ((i + L.length + 1 : Nat) : Int)]
  | [], i, x => rfl
  | y :: r, i, x => by
    show onLine y _ :: lined (r ++ [x]) (i + 1) = _
    rw [lined_snoc r (i + 1) x]
    show _ = onLine y _ :: (lined r (i + 1) ++ _)
    rw [show i + 1 + r.length + 1 = i + (y :: r).length + 1 by simp; omega]
theorem lineTo_len (L : List EventM) (k : Nat) (hk : k ≤ L.length) : (lineTo L k).length = L.length := by
  simp [lineTo, lined_len]
  omega
theorem evcs_len (L : List EventM) : (evcs L).length = L.length * 6 := by
  unfold evcs
  induction L with
  | nil => rfl
  | cons x L ih => rw [List.flatMap_cons, List.length_append, ih, List.length_cons]; simp [evc]; omega
theorem lineTo_next (L : List EventM) (k : Nat) (hk : k < L.length) : (evcs (lineTo L k)).set (k * 6 + 5) (.int .i64 ((k : Int) + 1)) = evcs (lineTo L (k + 1)) := by
  have e1 : lineTo L k = lined (L.take k) 0 ++ L[k] :: L.drop (k + 1) := by
    unfold lineTo
    rw [List.drop_eq_getElem_cons hk]
  have e2 : lineTo L (k + 1) = lined (L.take k) 0 ++ onLine L[k] ((k : Int) + 1) :: L.drop (k + 1) := by
    unfold lineTo
    rw [List.take_succ_eq_append_getElem hk, lined_snoc, List.length_take, Nat.min_eq_left (by omega), List.append_assoc]
    simp
  have hA : (evcs (lined (L.take k) 0)).length = k * 6 := by rw [evcs_len, lined_len, List.length_take, Nat.min_eq_left (by omega)]
  rw [e1, e2]
  unfold evcs at hA ⊢
  rw [List.flatMap_append, List.flatMap_append, List.flatMap_cons, List.flatMap_cons, List.set_append_right _ _ (by rw [hA]; omega), hA, show k * 6 + 5 - k * 6 = 5 by omega]
  rfl
theorem lineTo_zero (L : List EventM) : lineTo L 0 = L := by simp [lineTo, lined]
theorem lineTo_all (L : List EventM) : lineTo L L.length = lined L 0 := by simp [lineTo]
theorem write_len (L : List EventM) : (writeL L).1.length ≤ 65536 := by
  by_cases h : (writeL L).2 = 0
  · unfold writeL at h ⊢
    split
    · rename_i hc
      rw [if_pos hc] at h
      exact (cat_text L [] h).2 (by simp)
    · simp
  · rw [write_err L h]; simp

set_option maxRecDepth 100000 in
set_option maxHeartbeats 4000000 in
theorem logback_any (v : Value) (L : List EventM) (w : World) (hv : EvsA w v L) (hT : Lib.Utf8Tabs 4 5 w) (hm : HasMax w) (hE : EvTab w) :
    Calls Tryd.prog 12 #[v] w fun e w' => e = .returned (.bool true) ∧ Below w.heap.size w w' := by
  have hL := evsA_all hv
  have hM := few_mod hL
  have hn := fewE_len L
  have HW := Lib.hid (lworks8_any w hT hm hE)
  have HF := Lib.hid (fun w' (hb : Below w.heap.size w w') => few8_any v L w' (hv.below hb))
  have HB := Lib.hid (fun w' B v' h => few_both (w := w') (B := B) (v := v') hL h)
  have HG := Lib.hid (fun v' w' h => few8_again v' L w' h hL)
  have HP := Lib.hid (fun v' w' h (hb : Below w.heap.size w w') => logprint_any v' (fewE L) w' h (by omega) hM (Utf8Tabs_below hT hb) (hE.below hb))
  have HR := Lib.hid (fun w' (hb : Below w.heap.size w w') => log_any (writeL (fewE L)).1 (by have := write_len (fewE L); omega) w' (Utf8Tabs_below hT hb) (hm.below hb) (hE.below hb))
  have HRe : RowKit.Hid ((writeL (fewE L)).2 = 0 → readL (writeL (fewE L)).1 = (lined (fewE L) 0, 0, 0)) := Lib.hid (fun h => write_read (fewE L) h (fun x hx => (few_good hL x hx).2.2) (by omega))
  have HEr : RowKit.Hid ((writeL (fewE L)).2 ≠ 0 → (writeL (fewE L)).1 = []) := Lib.hid (write_err (fewE L))
  generalize fewE L = M at *
  obtain ⟨⟨T1, E1⟩, hT1⟩ : ∃ T, writeL M = T := ⟨_, rfl⟩
  rw [hT1] at HP HR HRe HEr
  simp only at HP HR HRe HEr
  clear hT hm hE hL hM hv hT1
  go_enter Tryd.func12, Tryd.ntmps12
  go_wp2_with fail
  refine HW.out.mono ?_
  rintro e0 w0 ⟨rfl, hB0⟩
  go_wp2_with fail
  refine (HF.out w0 hB0).mono ?_
  rintro e1 w1 ⟨v1, rfl, ho1, hb1⟩
  obtain ⟨hs1, ha1⟩ := HB.out _ _ _ ho1
  have HO1 := Lib.hid ho1
  have HA1 := Lib.hid ha1
  have hB1 := below_next hB0 hb1
  have HB0 := Lib.hid hB0
  have HB1 := Lib.hid hb1
  clear ho1 hs1 ha1 hB0 hb1
  go_wp2_with fail
  refine (HG.out _ _ HA1.out).mono ?_
  rintro e2 w2 ⟨v2, rfl, hs2, hb2⟩
  have HS2 := Lib.hid hs2
  have hB2 := below_next hB1 hb2
  have HO2 := Lib.hid (owns_later HO1.out hb2)
  have HBa := Lib.hid (below_next HB1.out hb2)
  clear hs2 hb2 hB1
  go_wp2_with fail
  refine (HP.out _ _ HS2.out hB2).mono ?_
  rintro e3 w3 ⟨rfl, hb3⟩
  have HBc := Lib.hid (below_next hB2 hb3)
  have HO3 := Lib.hid (owns_later HO2.out hb3)
  have HBb := Lib.hid (below_next HBa.out hb3)
  clear hb3 hB2
  by_cases hE1 : E1 = 0
  · subst hE1
    have hRe := HRe.out rfl
    rw [hRe] at HR
    simp only at HR
    clear hRe HRe HEr
    go_wp2_with fail
    obtain ⟨p1, c1, rfl⟩ := owns_form HO3.out
    go_loopw [5] (fun i wr => ∃ k : Nat, k ≤ M.length ∧ i = .int .i64 k ∧ wr.ownsRow w0.heap.size 37 6 (.slice p1 M.length c1) M.length (evcs (lineTo M k)) ∧ Below w0.heap.size w0 wr) (fun i _ => M.length - (RowKit.intOf i).toNat)
    case atStart => exact ⟨0, Nat.zero_le _, rfl, by rw [lineTo_zero]; exact HO3.out, HBb.out⟩
    case round =>
      obtain ⟨k, hk, rfl, hown, hbw⟩ := hrel
      by_cases hk1 : k < M.length
      · obtain ⟨m, hm1⟩ : ∃ m, M.length = m + 1 := ⟨M.length - 1, by omega⟩
        have ho2 := hown
        rw [hm1] at ho2
        obtain ⟨g, c2, he⟩ := owns_some ho2
        injection he with he1 he2 he3
        subst he1
        have hlen : (evcs (lineTo M k)).length = M.length * 6 := by rw [evcs_len, lineTo_len M k hk]
        have q5 : wr.cell? ⟨g, k * 6 + 5, none⟩ = some ((evcs (lineTo M k))[k * 6 + 5]'(by omega)) := by
          rw [hown.cellAt (k * 6 + 5) (by omega)]
          simp
        have qf := hown.frozenAt (k * 6 + 5)
        obtain ⟨u, hu⟩ : ∃ u, (evcs (lineTo M k))[k * 6 + 5]'(by omega) = u := ⟨_, rfl⟩
        rw [hu] at q5
        have hst := (hown.stored (k * 6 + 5) (.int .i64 ((k : Int) + 1))).1
        rw [lineTo_next M k hk1] at hst
        have hBg : w0.heap.size ≤ g := (hown.lt g rfl).1
        have HST := Lib.hid hst
        have HBW := Lib.hid (hbw.setCell (p := ⟨g, k * 6 + 5, none⟩) hBg (.int .i64 ((k : Int) + 1)))
        clear hst ho2 hu hlen hown hm1 he2 he3
        go_wp2_with fail
        go_roundw
        case rel => exact ⟨k + 1, by omega, by go_num, HST.out, HBW.out⟩
        case measure => simp [RowKit.intOf]; omega
      · have hke : k = M.length := by omega
        subst hke
        have hs9 : EvsS wr (.slice p1 M.length c1) (lined M 0) := by
          rw [lineTo_all] at hown
          have h9 : wr.ownsRow w0.heap.size 37 6 (.slice p1 M.length c1) (lined M 0).length (evcs (lined M 0)) := by rw [lined_len]; exact hown
          exact own_evs h9
        have HS9 := Lib.hid hs9
        have hBr := below_next HB0.out hbw
        clear hown hs9
        go_wp2_with fail
        refine (HR.out wr hBr).mono ?_
        rintro e5 w5 ⟨v5, rfl, hv5, hb5⟩
        have HS5 := Lib.hid (rsame08_any v5 _ _ _ w5 hv5 (HS9.out.below hb5) (by rw [lined_len]; omega) (by rw [lined_len]; omega))
        rw [decide_eq_true rfl] at HS5
        have hB5 := below_next hBr hb5
        clear hv5
        go_wp2_with fail
        refine HS5.out.mono ?_
        rintro e6 w6 ⟨rfl, hb6⟩
        go_wp2_with fail
        go_ret
        exact ⟨rfl, below_next hB5 hb6⟩
  · have hT1 := HEr.out hE1
    subst hT1
    have hd : (E1 != 0) = true := by simp [hE1]
    clear HRe HEr hE1
    go_wp2_with fail
    go_ret
    exact ⟨rfl, HBc.out⟩
end Go.Proofs.YtphhgdgamnogpaaDoor
