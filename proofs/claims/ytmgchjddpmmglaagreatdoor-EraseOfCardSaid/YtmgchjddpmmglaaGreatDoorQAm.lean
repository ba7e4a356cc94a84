/-
  The walks of layer 9's reference (table): a table or not, a name found, a name put in. No conditions.
  Layers 9 and 11 in plain words: a table is names in order; what a history that may be has; no program in sight. No conditions.
  A history whose values' numbers are Go's. No conditions.
  Layer 12 (show) in plain words: a history's events, its text, the history of a text; that reading undoes printing; no program in sight. No conditions.
  Layer 10 (pair): the chapter's example. Conditions: unicode/utf8's two tables hold what their initialisers lay.
  A history in memory beside a box of slices: stores into the box leave it as it was. No conditions.
  Layer 12 (show): Parse, walked. Conditions: unicode/utf8's two tables, event.words and bytealg.MaxLen hold what their initialisers lay; texts of at most 1,000,000 bytes.
-/
import Derived.Test.YtmgchjddpmmglaaGreatDoorQxPaX
namespace Go.Proofs.YtmgchjddpmmglaaGreatDoor
section
open Go.RowKit Go.Lib
theorem good_len' (L : List (List UInt8)) (k : Nat) (hs : ∀ x ∈ L, x.length ≤ 1000000) : (L.getD k []).length ≤ 1000000 := by
 by_cases h : k < L.length
 ·exact hs _ (getD_mem L k h)
 ·rw [List.getD_eq_getElem?_getD, List.getElem?_eq_none (by omega)]
  simp
set_option maxRecDepth 100000 in
set_option maxHeartbeats 2000000 in
theorem rtis_any (w : World) (v : Value) (L : List (List UInt8)) (hv : Texts w v L) (hL : L.length ≤ 1000000) (hs : ∀ x ∈ L, x.length ≤ 1000000) :
  Calls Tryz.prog 80 #[v] w fun e w' => e = .returned (.bool (isT L)) ∧ Below w.heap.size w w' := by
 obtain ⟨p, c, rfl, hp⟩ := hv
 have HX := Lib.hid hp
 have HS := Lib.hid hs
 have HA := Lib.hid (isT_no L)
 have HZ := Lib.hid (isT_yes L)
 obtain ⟨R, hR⟩ : ∃ R, isT L = R := ⟨_, rfl⟩
 rw [hR] at HA HZ ⊢
 clear hp hs hR
 go_enter Tryz.func80, Tryz.ntmps80
 go_wp2_with fail
 go_loopw [3] (fun i wr => ∃ k : Nat, k ≤ L.length ∧ i = .int .i64 k ∧ (∀ j, j < k → goodT L j = true) ∧ Below w.heap.size w wr) (fun i _ => L.length - (RowKit.intOf i).toNat)
 case atStart => exact ⟨0, Nat.zero_le _, rfl, fun j hj => absurd hj (Nat.not_lt_zero j), Below.refl _ _⟩
 case round =>
  obtain ⟨k, hk, rfl, hn, hbw⟩ := hrel
  have HN := Lib.hid hn
  clear hn
  by_cases hlt : k < L.length
  ·have hstep : goodT L k = true → ∀ j, j < k + 1 → goodT L j = true := fun hg j hj => by
    by_cases hjk : j < k
    ·exact HN.out j hjk
    ·obtain rfl : j = k := by omega
     exact hg
   have HStep := Lib.hid hstep
   have HNo := Lib.hid (HA.out k hlt)
   clear hstep
   cases k with
   | zero =>
    obtain ⟨g, rfl, hc⟩ := HX.out 0 hlt
    have HI := Lib.hid (ris_any (L.getD 0 []) (good_len' L 0 HS.out))
    have hg0 := good_first L
    obtain ⟨x, hx⟩ : ∃ x, L.getD 0 [] = x := ⟨_, rfl⟩
    rw [hx] at hc HI hg0
    have c3 : decide ((0 : Int) < 0) = false := by decide
    clear hx
    cases hnx : nameL x with
    | false =>
     rw [hnx] at HI hg0
     have H1 := Lib.hid (HNo.out hg0)
     clear hnx hg0
     go_wp2_with fail
     have hq0 : ∀ m : Later wr, m.w.cell? ⟨g, 0, none⟩ = some (.string (bs x)) := fun m => cell_later m.h (cell_later hbw hc)
     refine wp_region_later (by kernel_rfl) (by kernel_rfl) ?_
     repeat (go_big_quiet_step (first | (go_at_call 136; exact Later.call (HI.out _))))
     refine wpQuiet_nil ?_
     intro _ hw'
     obtain ⟨⟨w3, hb3⟩, hw''⟩ := hw'
     have hw3 : w3 = _ := hw''.symm
     subst hw3
     try dsimp only at hb3
     go_wp2_with fail
     go_ret
     exact ⟨by rw [H1.out]; rfl, below_next hbw hb3⟩
    | true =>
     rw [hnx] at HI hg0
     have H1 := Lib.hid (HStep.out hg0)
     have hwr : IntKind.i64.wrap 1 = 1 := by decide
     clear hnx hg0
     go_wp2_with fail
     have hq0 : ∀ m : Later wr, m.w.cell? ⟨g, 0, none⟩ = some (.string (bs x)) := fun m => cell_later m.h (cell_later hbw hc)
     refine wp_region_later (by kernel_rfl) (by kernel_rfl) ?_
     repeat (go_big_quiet_step (first | (go_at_call 136; exact Later.call (HI.out _))))
     refine wpQuiet_nil ?_
     intro _ hw'
     obtain ⟨⟨w3, hb3⟩, hw''⟩ := hw'
     have hw3 : w3 = _ := hw''.symm
     subst hw3
     try dsimp only at hb3
     go_wp2_with fail
     go_roundw
     case rel => exact ⟨1, by omega, rfl, H1.out, below_next hbw hb3⟩
     case measure => simp [RowKit.intOf]; omega
   | succ q =>
    obtain ⟨g, rfl, hc⟩ := HX.out (q + 1) hlt
    obtain ⟨g', hg', hd⟩ := HX.out q (by omega)
    obtain rfl : g = g' := by simpa using hg'
    have HI := Lib.hid (ris_any (L.getD (q + 1) []) (good_len' L (q + 1) HS.out))
    have HL := Lib.hid (rless_any (L.getD q []) (L.getD (q + 1) []) (good_len' L q HS.out) (good_len' L (q + 1) HS.out))
    have hg0 := good_next L q
    have hlt0 : ltN (L.getD q []) (L.getD (q + 1) []) = lexLess (runesU (L.getD q [])) (runesU (L.getD (q + 1) [])) := rfl
    obtain ⟨x, hx⟩ : ∃ x, L.getD (q + 1) [] = x := ⟨_, rfl⟩
    obtain ⟨y, hy⟩ : ∃ y, L.getD q [] = y := ⟨_, rfl⟩
    rw [hx] at hc HI HL hg0 hlt0
    rw [hy] at hd HL hg0 hlt0
    rw [← hlt0] at HL
    have c3 : decide ((0 : Int) < (q : Int) + 1) = true := decide_eq_true (by omega)
    clear hx hy hlt0 hg'
    cases hnx : nameL x with
    | false =>
     rw [hnx] at HI hg0
     have H1 := Lib.hid (HNo.out hg0)
     clear hnx hg0
     go_wp2_with fail
     have hq0 : ∀ m : Later wr, m.w.cell? ⟨g, q + 1, none⟩ = some (.string (bs x)) := fun m => cell_later m.h (cell_later hbw hc)
     have hq1 : ∀ m : Later wr, m.w.cell? ⟨g, q, none⟩ = some (.string (bs y)) := fun m => cell_later m.h (cell_later hbw hd)
     refine wp_region_later (by kernel_rfl) (by kernel_rfl) ?_
     repeat (go_big_quiet_step (first | (go_at_call 136; exact Later.call (HI.out _))))
     refine wpQuiet_nil ?_
     intro _ hw'
     obtain ⟨⟨w3, hb3⟩, hw''⟩ := hw'
     have hw3 : w3 = _ := hw''.symm
     subst hw3
     try dsimp only at hb3
     go_wp2_with fail
     go_ret
     exact ⟨by rw [H1.out]; rfl, below_next hbw hb3⟩
    | true =>
     rw [hnx, Bool.true_and] at hg0
     rw [hnx] at HI
     cases hl : ltN y x with
     | false =>
      rw [hl] at HL hg0
      have H1 := Lib.hid (HNo.out hg0)
      clear hnx hg0 hl
      go_wp2_with fail
      have hq0 : ∀ m : Later wr, m.w.cell? ⟨g, q + 1, none⟩ = some (.string (bs x)) := fun m => cell_later m.h (cell_later hbw hc)
      have hq1 : ∀ m : Later wr, m.w.cell? ⟨g, q, none⟩ = some (.string (bs y)) := fun m => cell_later m.h (cell_later hbw hd)
      refine wp_region_later (by kernel_rfl) (by kernel_rfl) ?_
      repeat (go_big_quiet_step (first | (go_at_call 136; exact Later.call (HI.out _)) | (go_at_call 137; exact Later.call (HL.out _))))
      refine wpQuiet_nil ?_
      intro _ hw'
      obtain ⟨⟨w3, hb3⟩, hw''⟩ := hw'
      have hw3 : w3 = _ := hw''.symm
      subst hw3
      try dsimp only at hb3
      go_wp2_with fail
      go_ret
      exact ⟨by rw [H1.out]; rfl, below_next hbw hb3⟩
     | true =>
      rw [hl] at HL hg0
      have H1 := Lib.hid (HStep.out hg0)
      have hwr : IntKind.i64.wrap ((q : Int) + 1 + 1) = (q : Int) + 1 + 1 := IntWalk.i64_in _ (by omega)
      clear hnx hg0 hl
      go_wp2_with fail
      have hq0 : ∀ m : Later wr, m.w.cell? ⟨g, q + 1, none⟩ = some (.string (bs x)) := fun m => cell_later m.h (cell_later hbw hc)
      have hq1 : ∀ m : Later wr, m.w.cell? ⟨g, q, none⟩ = some (.string (bs y)) := fun m => cell_later m.h (cell_later hbw hd)
      refine wp_region_later (by kernel_rfl) (by kernel_rfl) ?_
      repeat (go_big_quiet_step (first | (go_at_call 136; exact Later.call (HI.out _)) | (go_at_call 137; exact Later.call (HL.out _))))
      refine wpQuiet_nil ?_
      intro _ hw'
      obtain ⟨⟨w3, hb3⟩, hw''⟩ := hw'
      have hw3 : w3 = _ := hw''.symm
      subst hw3
      try dsimp only at hb3
      go_wp2_with fail
      go_roundw
      case rel => exact ⟨q + 1 + 1, by omega, by go_num, H1.out, below_next hbw hb3⟩
      case measure => simp [RowKit.intOf]; omega
  ·have hke : k = L.length := by omega
   subst hke
   have H1 := Lib.hid (HZ.out HN.out)
   go_wp2_with fail
   go_ret
   exact ⟨by rw [H1.out]; rfl, hbw⟩
end
section
open Go.RowKit Go.Lib
theorem isT_names (L : List (List UInt8)) : isT L = true ↔ (∀ x ∈ L, nameL x = true) ∧ L.Pairwise (fun a b => ltN a b = true) := by
 constructor
 ·intro h
  unfold isT at h
  rw [List.all_eq_true] at h
  have hg : ∀ i (hi : i < L.length), nameL L[i] = true := fun i hi => by
   have := h i (List.mem_range.2 hi)
   unfold goodT at this
   simp only [Bool.and_eq_true] at this
   simpa [hi] using this.1
  have hs : ∀ i (hi : i + 1 < L.length), ltN L[i] L[i + 1] = true := fun i hi => by
   have := h (i + 1) (List.mem_range.2 hi)
   rw [good_next] at this
   simp only [Bool.and_eq_true] at this
   simpa [hi, show i < L.length by omega] using this.2
  refine ⟨fun x hx => ?_, ?_⟩
  ·obtain ⟨i, hi, rfl⟩ := List.getElem_of_mem hx
   exact hg i hi
  ·rw [List.pairwise_iff_getElem]
   intro i j hi hj hij
   induction j with
   | zero => exact absurd hij (Nat.not_lt_zero i)
   | succ j ih =>
    by_cases e : i = j
    ·subst e; exact hs i hj
    ·exact ltN_trans _ _ _ (ih (by omega) (by omega)) (hs j hj)
 ·rintro ⟨h1, h2⟩
  refine isT_yes L fun j hj => ?_
  have e0 : L.getD j [] = L[j] := by simp [hj]
  cases j with
  | zero => rw [good_first, e0]; exact h1 _ (List.getElem_mem hj)
  | succ j =>
   have e1 : L.getD j [] = L[j] := by simp [show j < L.length by omega]
   rw [good_next, e0, e1, h1 _ (List.getElem_mem hj), List.pairwise_iff_getElem.1 h2 j (j + 1) (by omega) hj (by omega)]
   rfl
structure MayH (h : HistM) : Prop where
 t0 : isT h.1 = true
 t1 : isT h.2.1 = true
 n0 : h.1.length ≤ 20
 n1 : h.2.1.length ≤ 40
 n2 : h.2.2.length ≤ 40
 txn : ∀ t ∈ h.2.2, okTxn h.1.length t = true
 op : ∀ o ∈ allOps h, okOp h.2.1.length o = true
 u0 : allUsed h.1.length (h.2.2.map (·.1)) = true
 u1 : allUsed h.2.1.length ((allOps h).map (·.2.1)) = true
theorem mayH_iff (h : HistM) : mayH h = true ↔ MayH h := by
 unfold mayH okHeads usedH
 simp only [Bool.and_eq_true, decide_eq_true_eq, List.all_eq_true]
 constructor
 ·rintro ⟨⟨a, b, c, d, e⟩, f, g, u, v⟩
  exact ⟨a, b, c, d, e, f, g, u, v⟩
 ·rintro ⟨a, b, c, d, e, f, g, u, v⟩
  exact ⟨⟨a, b, c, d, e⟩, f, g, u, v⟩
theorem okOp_key {m : Nat} {o : OpM} (h : okOp m o = true) : 0 ≤ o.2.1 ∧ o.2.1 < m := by
 unfold okOp inside at h
 simp only [Bool.and_eq_true, decide_eq_true_eq] at h
 exact h.1
end
section
def NumH (h : HistM) : Prop := ∀ t ∈ h.2.2, ∀ o ∈ t.2.2, -9223372036854775808 ≤ o.2.2.2 ∧ o.2.2.2 ≤ 9223372036854775807
end
section
open Go.RowKit Go.Lib
def opEv (h : HistM) (s : List UInt8) (o : OpM) : EventM := (if o.1 then 3 else 2, s, h.2.1.getD o.2.1.toNat [], o.2.2.1, o.2.2.2, 0)
def begEv (s : List UInt8) : EventM := (1, s, [], 0, 0, 0)
def endEv (s : List UInt8) (f : Int) : EventM := (3 + f, s, [], 0, 0, 0)
def evT (h : HistM) (t : TxnM) : List EventM := begEv (h.1.getD t.1.toNat []) :: (t.2.2.map (opEv h (h.1.getD t.1.toNat [])) ++ [endEv (h.1.getD t.1.toNat []) t.2.1])
def rawE (h : HistM) : List EventM := h.2.2.flatMap (evT h)
def showE (h : HistM) : List EventM := lined (rawE h) 0
def eventsP (h : HistM) : List EventM × Int := if mayH h then (showE h, 0) else ([], 4)
def printP (h : HistM) : List UInt8 × Int := if mayH h then writeL (showE h) else ([], 4)
def parseP (l : List UInt8) : HistM × Int × Int := if (readL l).2.2 ≠ 0 then (noH, (readL l).2.1, (readL l).2.2) else histP (readL l).1
theorem logGo_may : ∀ (r : List (List UInt8)) (i : Nat) (out : List EventM), out.length ≤ 1000 → (∀ x ∈ out, mayE x = true) → (logGo r i out).1.length ≤ 1000 ∧ ∀ x ∈ (logGo r i out).1, mayE x = true
 | [], _, out, hl, h => ⟨hl, h⟩
 | t :: r, i, out, hl, h => by
  unfold logGo
  split
  ·exact ⟨Nat.zero_le _, fun x hx => (by cases hx)⟩
  ·split
   ·exact logGo_may r (i + 1) out hl h
   ·rename_i h2
    split
    ·exact ⟨Nat.zero_le _, fun x hx => (by cases hx)⟩
    ·refine logGo_may r (i + 1) _ (by rw [List.length_append, List.length_singleton]; omega) (fun x hx => ?_)
     rcases List.mem_append.1 hx with g | g
     ·exact h x g
     ·rw [List.mem_singleton.1 g]
      exact (parse_may t (by simpa using h2)).2
theorem read_good (l : List UInt8) : (readL l).1.length ≤ 1000 ∧ ∀ x ∈ (readL l).1, mayE x = true := by
 unfold readL
 split
 ·exact ⟨Nat.zero_le _, fun x hx => (by cases hx)⟩
 ·exact logGo_may _ _ _ (Nat.zero_le _) (fun x hx => (by cases hx))
theorem name_short (l : List UInt8) (h : nameL l = true) : l.length ≤ 1000000 := by
 have hv := textU_runes _ l (Nat.le_refl _) (name_valid l h)
 unfold nameL word at h
 simp only [Bool.and_eq_true, decide_eq_true_eq] at h
 have := textU_len (runesU l)
 rw [hv] at this
 omega
theorem may_short (x : EventM) (h : mayE x = true) : x.2.1.length ≤ 1000000 ∧ x.2.2.1.length ≤ 1000000 := by
 have h0 := mayE_nm x h
 refine ⟨name_short _ h0.1, ?_⟩
 by_cases hk : x.1 = 2 ∨ x.1 = 3
 ·exact name_short _ (h0.2.2.2 hk)
 ·unfold mayE at h
  simp only [Bool.and_eq_true] at h
  have e : longK x.1 = false := by
   unfold longK
   simp only [not_or] at hk
   simp [hk.1, hk.2]
  rw [e] at h
  have h4 := h.2.2.2
  simp at h4
  rw [h4.1]
  exact Nat.zero_le _
theorem read_short (l : List UInt8) : ∀ x ∈ (readL l).1, x.2.1.length ≤ 1000000 ∧ x.2.2.1.length ≤ 1000000 := fun x hx => may_short x ((read_good l).2 x hx)
theorem parse12_err {l : List UInt8} {L : List EventM} {n e : Int} (h : readL l = (L, n, e)) (he : e ≠ 0) : parseP l = (noH, n, e) := by
 unfold parseP
 rw [h]
 exact if_pos he
theorem parse12_ok {l : List UInt8} {L : List EventM} {n : Int} (h : readL l = (L, n, 0)) : parseP l = histP L := by
 unfold parseP
 rw [h]
 exact if_neg (by simp)
theorem sh_lined_app : ∀ (A B : List EventM) (i : Nat), lined (A ++ B) i = lined A i ++ lined B (i + A.length)
 | [], B, i => by simp [lined]
 | x :: A, B, i => by
  rw [List.cons_append, lined, lined, sh_lined_app A B (i + 1), List.length_cons, List.cons_append, show i + 1 + A.length = i + (A.length + 1) by omega]
theorem sh_lined_len : ∀ (A : List EventM) (i : Nat), (lined A i).length = A.length
 | [], _ => rfl
 | x :: A, i => by rw [lined, List.length_cons, List.length_cons, sh_lined_len A (i + 1)]
theorem sh_lined_mem : ∀ (A : List EventM) (i : Nat) (x : EventM), x ∈ lined A i → ∃ y n, y ∈ A ∧ x = onLine y n
 | [], _, x, h => by cases h
 | y :: A, i, x, h => by
  rw [lined, List.mem_cons] at h
  rcases h with rfl | h
  ·exact ⟨y, _, List.mem_cons_self .., rfl⟩
  ·obtain ⟨z, n, hz, e⟩ := sh_lined_mem A (i + 1) x h
   exact ⟨z, n, List.mem_cons_of_mem _ hz, e⟩
theorem mayE_line (x : EventM) (n : Int) : mayE (onLine x n) = mayE x := rfl
theorem MayH.ses {h : HistM} (hm : MayH h) {t : TxnM} (ht : t ∈ h.2.2) : 0 ≤ t.1 ∧ t.1 < h.1.length ∧ 1 ≤ t.2.1 ∧ t.2.1 ≤ 3 ∧ t.2.2.length ≤ 20 := by
 have h1 := hm.txn t ht
 unfold okTxn inside at h1
 simp only [Bool.and_eq_true, decide_eq_true_eq] at h1
 exact ⟨h1.1.1, h1.1.2, h1.2.1, h1.2.2.1, h1.2.2.2⟩
theorem MayH.opOf {h : HistM} (hm : MayH h) {t : TxnM} (ht : t ∈ h.2.2) {o : OpM} (ho : o ∈ t.2.2) : okOp h.2.1.length o = true := hm.op o (List.mem_flatMap.2 ⟨t, ht, ho⟩)
theorem sh_in (L : List (List UInt8)) (i : Nat) (hi : i < L.length) : L.getD i [] ∈ L := by
 have e : L.getD i [] = L[i] := by simp [hi]
 rw [e]
 exact List.getElem_mem hi
theorem MayH.name {h : HistM} (hm : MayH h) {t : TxnM} (ht : t ∈ h.2.2) : h.1.getD t.1.toNat [] ∈ h.1 ∧ nameL (h.1.getD t.1.toNat []) = true := by
 obtain ⟨a, b, -⟩ := hm.ses ht
 have h1 := sh_in h.1 t.1.toNat (by omega)
 exact ⟨h1, ((isT_names _).1 hm.t0).1 _ h1⟩
theorem MayH.key {h : HistM} (hm : MayH h) {t : TxnM} (ht : t ∈ h.2.2) {o : OpM} (ho : o ∈ t.2.2) : h.2.1.getD o.2.1.toNat [] ∈ h.2.1 ∧ nameL (h.2.1.getD o.2.1.toNat []) = true := by
 obtain ⟨a, b⟩ := okOp_key (hm.opOf ht ho)
 have h1 := sh_in h.2.1 o.2.1.toNat (by omega)
 exact ⟨h1, ((isT_names _).1 hm.t1).1 _ h1⟩
theorem op_may {h : HistM} (hm : MayH h) {t : TxnM} (ht : t ∈ h.2.2) {o : OpM} (ho : o ∈ t.2.2) (s : List UInt8) (hs : nameL s = true) (n : Int) : mayE (onLine (opEv h s o) n) = true := by
 have h1 := hm.opOf ht ho
 have h2 := (hm.key ht ho).2
 unfold okOp at h1
 simp only [Bool.and_eq_true] at h1
 obtain ⟨-, h3, h4⟩ := h1
 rw [mayE_line]
 unfold mayE opEv
 simp only
 rw [hs, h2, h3]
 cases hw : o.1 with
 | true =>
  rw [hw] at h4
  simp at h4
  rw [h4]
  simp [longK]
 | false => simp [longK]
theorem beg_may (s : List UInt8) (hs : nameL s = true) (n : Int) : mayE (onLine (begEv s) n) = true := by
 rw [mayE_line]
 unfold mayE begEv
 simp only
 rw [hs]
 simp [longK]
theorem end_may (s : List UInt8) (hs : nameL s = true) (f : Int) (h1 : 1 ≤ f) (h3 : f ≤ 3) (n : Int) : mayE (onLine (endEv s f) n) = true := by
 rw [mayE_line]
 unfold mayE endEv
 simp only
 rw [hs]
 rcases (by omega : f = 1 ∨ f = 2 ∨ f = 3) with e | e | e <;> rw [e] <;> simp [longK]
theorem show_may {h : HistM} (hm : MayH h) : ∀ x ∈ showE h, mayE x = true := by
 intro x hx
 obtain ⟨y, n, hy, rfl⟩ := sh_lined_mem _ _ _ hx
 obtain ⟨t, ht, hy⟩ := List.mem_flatMap.1 hy
 have hn := (hm.name ht).2
 obtain ⟨-, -, f1, f3, -⟩ := hm.ses ht
 unfold evT at hy
 rw [List.mem_cons, List.mem_append, List.mem_singleton] at hy
 rcases hy with rfl | hy | rfl
 ·exact beg_may _ hn n
 ·obtain ⟨o, ho, rfl⟩ := List.mem_map.1 hy
  exact op_may hm ht ho _ hn n
 ·exact end_may _ hn _ f1 f3 n
theorem evT_len (h : HistM) (t : TxnM) : (evT h t).length = t.2.2.length + 2 := by simp [evT]
theorem raw_len (h : HistM) : ∀ (L : List TxnM), (∀ t ∈ L, t.2.2.length ≤ 20) → (L.flatMap (evT h)).length ≤ 22 * L.length
 | [], _ => by simp
 | t :: L, hl => by
  have h1 := raw_len h L (fun x hx => hl x (List.mem_cons_of_mem _ hx))
  have h2 := hl t (List.mem_cons_self ..)
  rw [List.flatMap_cons, List.length_append, evT_len, List.length_cons]
  omega
theorem show_len {h : HistM} (hm : MayH h) : (showE h).length ≤ 880 := by
 unfold showE
 rw [sh_lined_len]
 have h1 := raw_len h h.2.2 (fun t ht => (hm.ses ht).2.2.2.2)
 have h2 := hm.n2
 unfold rawE
 omega
theorem show_num {h : HistM} (hn : NumH h) : ∀ x ∈ showE h, NumE x := by
 intro x hx
 obtain ⟨y, n, hy, rfl⟩ := sh_lined_mem _ _ _ hx
 obtain ⟨t, ht, hy⟩ := List.mem_flatMap.1 hy
 unfold evT at hy
 rw [List.mem_cons, List.mem_append, List.mem_singleton] at hy
 rcases hy with rfl | hy | rfl
 ·exact ⟨by show _ ≤ (0 : Int); omega, by show (0 : Int) ≤ _; omega⟩
 ·obtain ⟨o, ho, rfl⟩ := List.mem_map.1 hy
  exact hn t ht o ho
 ·exact ⟨by show _ ≤ (0 : Int); omega, by show (0 : Int) ≤ _; omega⟩
end
section
open Go.RowKit Go.Lib Go.Maps Go.WideMaps
theorem histV_form {w : World} {v : Value} {h : HistM} (hv : HistV w v h) : ∃ p0 c0 p1 c1 p2 c2, v = .agg #[.slice p0 h.1.length c0, .slice p1 h.2.1.length c1, .slice p2 h.2.2.length c2] := by
 obtain ⟨v0, v1, v2, rfl, ⟨p0, c0, rfl, -⟩, ⟨p1, c1, rfl, -⟩, ⟨p2, c2, rfl, -⟩⟩ := hv
 exact ⟨_, _, _, _, _, _, rfl⟩
theorem histV_parts {w : World} {v0 v1 v2 : Value} {h : HistM} (hv : HistV w (.agg #[v0, v1, v2]) h) : Texts w v0 h.1 ∧ Texts w v1 h.2.1 ∧ TxnsS w v2 h.2.2 := by
 obtain ⟨u0, u1, u2, e, h0, h1, h2⟩ := hv
 injection e with e
 have e' : [v0, v1, v2] = [u0, u1, u2] := congrArg Array.toList e
 injection e' with e0 e'
 injection e' with e1 e'
 injection e' with e2 _
 subst e0 e1 e2
 exact ⟨h0, h1, h2⟩
end
section
open Go.RowKit Go.Lib
def SlBox (w : World) (B : Nat) (t : TypeId) (cs : List Value) : Prop := Blk w B t cs ∧ ∀ x ∈ cs, ∃ p n c, x = .slice p n c
theorem SlBox.ne {w : World} {B : Nat} {t : TypeId} {cs : List Value} (h : SlBox w B t cs) {a : Addr} {v : Value} (ha : w.cell? a = some v) (hv : ∀ p n c, v ≠ .slice p n c) : a.block ≠ B := by
 intro e
 obtain ⟨b, o, s⟩ := a
 simp only at e
 subst e
 have hs : s = none := by
  cases s with
  | none => rfl
  | some q =>
   exfalso
   have hb : w.heap[b]? = some (.cells cs.toArray t (0, 0)) := h.1
   simp [World.cell?, hb] at ha
 subst hs
 have hb : w.heap[b]? = some (.cells cs.toArray t (0, 0)) := h.1
 rw [cell_of_row w b o cs.toArray t (0, 0) hb] at ha
 have hm : v ∈ cs := by
  have : cs[o]? = some v := by simpa using ha
  exact List.mem_of_getElem? this
 obtain ⟨p, n, c, e⟩ := h.2 v hm
 exact hv p n c e
theorem cell_set_far {w : World} {B i : Nat} {u v : Value} {a : Addr} (h : w.cell? a = some v) (hne : a.block ≠ B) : (w.setCell ⟨B, i, none⟩ u).cell? a = some v := by
 rw [World.cell?_setCell_far _ _ _ _ (fun e => hne e.symm)]; exact h
theorem SlBox.set {w : World} {B : Nat} {t : TypeId} {cs : List Value} (h : SlBox w B t cs) (i : Nat) (p : Option Addr) (n c : Nat) : SlBox (w.setCell ⟨B, i, none⟩ (.slice p n c)) B t (cs.set i (.slice p n c)) :=
 ⟨h.1.set i _, fun x hx => by
  rcases List.mem_or_eq_of_mem_set hx with h' | h'
  ·exact h.2 x h'
  ·exact ⟨p, n, c, h'⟩⟩
section
variable {w : World} {B : Nat} {t : TypeId} {cs : List Value} (hB : SlBox w B t cs) (i : Nat) (u : Value)
include hB
theorem texts_box {v : Value} {L : List (List UInt8)} (h : Texts w v L) : Texts (w.setCell ⟨B, i, none⟩ u) v L := by
 obtain ⟨p, c, rfl, hp⟩ := h
 refine ⟨p, c, rfl, fun j hj => ?_⟩
 obtain ⟨g, rfl, hc⟩ := hp j hj
 exact ⟨g, rfl, cell_set_far hc (hB.ne hc (by intros; simp))⟩
theorem opsS_box {v : Value} {L : List OpM} (h : OpsS w v L) : OpsS (w.setCell ⟨B, i, none⟩ u) v L := by
 obtain ⟨p, c, rfl, hcap, hp⟩ := h
 refine ⟨p, c, rfl, hcap, fun j hj => ?_⟩
 obtain ⟨g, rfl, h0, h1, h2, h3⟩ := hp j hj
 have hne : g ≠ B := hB.ne h0 (by intros; simp)
 exact ⟨g, rfl, cell_set_far h0 hne, cell_set_far h1 hne, cell_set_far h2 hne, cell_set_far h3 hne⟩
theorem txnsS_box {v : Value} {L : List TxnM} (h : TxnsS w v L) : TxnsS (w.setCell ⟨B, i, none⟩ u) v L := by
 obtain ⟨p, c, rfl, hp⟩ := h
 refine ⟨p, c, rfl, fun j hj => ?_⟩
 obtain ⟨g, sv, rfl, h0, h1, h2, h3⟩ := hp j hj
 have hne : g ≠ B := hB.ne h0 (by intros; simp)
 exact ⟨g, sv, rfl, cell_set_far h0 hne, cell_set_far h1 hne, cell_set_far h2 hne, opsS_box hB i u h3⟩
theorem histV_box {v : Value} {h : HistM} (hv : HistV w v h) : HistV (w.setCell ⟨B, i, none⟩ u) v h := by
 obtain ⟨v0, v1, v2, e, h0, h1, h2⟩ := hv
 exact ⟨v0, v1, v2, e, texts_box hB i u h0, texts_box hB i u h1, txnsS_box hB i u h2⟩
end
end
section
open Go.RowKit Go.Lib
theorem ret_h12 {w : World} {b : Nat} {v0 v1 v2 : Value} (tmps : Array Value) (v3 v4 : Value) (h : Blk w b 25 [v0, v1, v2]) (h2 : tmps.getD 2 undef = .pointer (some ⟨b, 0, none⟩)) (h3 : tmps.getD 3 undef = v3) (h4 : tmps.getD 4 undef = v4) :
  (results Tryz.f16 tmps).run Tryz.prog w = .ok (.tuple #[.agg #[v0, v1, v2], v3, v4]) w := by
 have hr : w.rangeAt b 0 [v0, v1, v2] := fun j v hj => by rw [Nat.zero_add]; exact h.cell j hj
 have hl := run_loadVar_mid (P := Tryz.prog) w b 0 25 [v0, v1, v2] _ hr Tryz.underlying25 rfl (by kernel_rfl)
 rw [← h3, ← h4]
 exact results_cell3' Tryz.results16 tmps _ w _ _ h2 hl
theorem box_hist {w : World} {gr : Nat} {v0 v1 v2 : Value} {h : HistM} (hB : SlBox w gr 25 [.slice none 0 0, .slice none 0 0, .slice none 0 0]) (hv : HistV w (.agg #[v0, v1, v2]) h) :
  HistV (((w.setCell ⟨gr, 0, none⟩ v0).setCell ⟨gr, 1, none⟩ v1).setCell ⟨gr, 2, none⟩ v2) (.agg #[v0, v1, v2]) h := by
 obtain ⟨q0, c0, q1, c1, q2, c2, e⟩ := histV_form hv
 injection e with e
 have e' : [v0, v1, v2] = [.slice q0 h.1.length c0, .slice q1 h.2.1.length c1, .slice q2 h.2.2.length c2] := congrArg Array.toList e
 injection e' with e0 e'
 injection e' with e1 e'
 injection e' with e2 _
 subst e0 e1 e2
 have b1 := hB.set 0 q0 h.1.length c0
 have b2 := b1.set 1 q1 h.2.1.length c1
 exact histV_box b2 2 _ (histV_box b1 1 _ (histV_box hB 0 _ hv))
set_option maxRecDepth 100000 in
set_option maxHeartbeats 2000000 in
theorem parse12_any (l : List UInt8) (hl : l.length ≤ 1000000) (w : World) (hT : Lib.Utf8Tabs 1 2 w) (hm : HasMax w) (hE : EvTab w) :
  Calls Tryz.prog 16 #[.string (bs l)] w fun e w' => ∃ hv, e = .returned (.tuple #[hv, .int .i64 (parseP l).2.1, .int .i64 (parseP l).2.2]) ∧ HistV w' hv (parseP l).1 ∧ Below w.heap.size w w' := by
 have hal := (Below.refl w.heap.size w).alloc (Nat.le_refl _) (.cells #[.slice none 0 0, .slice none 0 0, .slice none 0 0] 25)
 have HLg := Lib.hid (log_any l hl (w.alloc (.cells #[.slice none 0 0, .slice none 0 0, .slice none 0 0] 25)) (Utf8Tabs_below hT hal) (hm.below hal) (hE.below hal))
 have HT := Lib.hid hT
 have HG := Lib.hid (read_good l)
 have HSh := Lib.hid (read_short l)
 have HErr := Lib.hid (fun (L : List EventM) n e (h : readL l = (L, n, e)) (he : e ≠ 0) => parse12_err h he)
 have HOk := Lib.hid (fun (L : List EventM) n (h : readL l = (L, n, 0)) => parse12_ok h)
 have HAL := Lib.hid hal
 have HR1 := Lib.hid (Blk.new w 25 [.slice none 0 0, .slice none 0 0, .slice none 0 0])
 obtain ⟨⟨L, n, er⟩, hr⟩ : ∃ r, readL l = r := ⟨_, rfl⟩
 rw [hr] at HLg HG HSh HErr HOk
 clear hr hT hm hE hal
 go_enter Tryz.func16, Tryz.ntmps16
 go_wp2_with fail
 refine HLg.out.mono ?_
 rintro e w1 ⟨v, rfl, hev, hb1⟩
 have hbw1 := below_next HAL.out hb1
 have HR2 := Lib.hid (HR1.out.later hb1)
 have HB1 := Lib.hid hbw1
 clear hb1 HLg HR1 HAL
 dsimp only at hev HG HSh ⊢
 obtain ⟨gr, hgr⟩ : ∃ g, w.heap.size = g := ⟨_, rfl⟩
 rw [hgr] at HR2 HB1
 try simp only [hgr]
 by_cases her : er = 0
 ·subst her
  have hP := HOk.out _ _ rfl
  have HH := Lib.hid (hist10_any v L hev HG.out.1 HSh.out (Utf8Tabs_below HT.out (show Below w.heap.size w w1 by rw [hgr]; exact HB1.out)))
  obtain ⟨⟨h, n', e'⟩, hh⟩ : ∃ r, histP L = r := ⟨_, rfl⟩
  rw [hh] at HH hP
  have HP := Lib.hid hP
  clear hh hev HErr HOk hP
  go_wp2_with fail
  refine HH.out.mono ?_
  rintro e w2 ⟨hv, rfl, hhv, hb2⟩
  try dsimp only at hhv
  have HR3 := Lib.hid (HR2.out.later hb2)
  have hb3 : Below gr w w2 := HB1.out.trans (hb2.mono (by have := HB1.out.size; omega))
  obtain ⟨p0, c0, p1, c1, p2, c2, rfl⟩ := histV_form hhv
  have HS := Lib.hid (box_hist (gr := gr) ⟨HR3.out, by intro x hx; simp at hx; exact ⟨none, 0, 0, hx⟩⟩ hhv)
  have r0 := HR3.out.cell 0 rfl
  have r1 := HR3.out.cell 1 rfl
  have r2 := HR3.out.cell 2 rfl
  have f0 := HR3.out.frozen 0
  have f1 := HR3.out.frozen 1
  have f2 := HR3.out.frozen 2
  have HRS := Lib.hid (((HR3.out.set 0 (.slice p0 h.1.length c0)).set 1 (.slice p1 h.2.1.length c1)).set 2 (.slice p2 h.2.2.length c2))
  have HB3 := Lib.hid (((hb3.setCell (p := ⟨gr, 0, none⟩) (Nat.le_refl _) (.slice p0 h.1.length c0)).setCell (p := ⟨gr, 1, none⟩) (Nat.le_refl _) (.slice p1 h.2.1.length c1)).setCell (p := ⟨gr, 2, none⟩) (Nat.le_refl _) (.slice p2 h.2.2.length c2))
  clear hhv hb2 hb3 HH
  go_wp21
  rw [HP.out]
  refine bodyPost_ret (ret_h12 _ _ _ HRS.out rfl rfl rfl) rfl ⟨_, rfl, HS.out, ?_⟩
  rw [hgr]
  exact HB3.out
 ·have hfb : (er != 0) = true := by simpa using her
  have HE := Lib.hid (HErr.out _ _ _ rfl her)
  have r0 := HR2.out.cell 0 rfl
  have r1 := HR2.out.cell 1 rfl
  have r2 := HR2.out.cell 2 rfl
  have f0 := HR2.out.frozen 0
  have f1 := HR2.out.frozen 1
  have f2 := HR2.out.frozen 2
  have HRS := Lib.hid (((HR2.out.set 0 (.slice none 0 0)).set 1 (.slice none 0 0)).set 2 (.slice none 0 0))
  have hb3 := HB1.out
  clear her hev HErr HOk
  go_wp21
  rw [HE.out]
  refine bodyPost_ret (ret_h12 _ _ _ HRS.out rfl rfl rfl) rfl ⟨_, rfl, histV_no _, ?_⟩
  rw [hgr]
  exact ((hb3.setCell (Nat.le_refl _) _).setCell (Nat.le_refl _) _).setCell (Nat.le_refl _) _
end
end Go.Proofs.YtmgchjddpmmglaaGreatDoor
