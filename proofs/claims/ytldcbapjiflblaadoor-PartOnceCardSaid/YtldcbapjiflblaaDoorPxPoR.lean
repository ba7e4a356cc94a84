/-
  Layer 20 (part): part.Round walked: whether a graph goes round. No conditions but that math/bits's table is as its initialiser lays it.
-/
import Derived.Test.YtldcbapjiflblaaDoorPxPoA
namespace Go.Proofs.YtldcbapjiflblaaDoor
open Go.RowKit Go.Lib
theorem any_yes {α : Type} {L : List α} {q : α → Bool} {d : α} {k : Nat} (hk : k < L.length) (h : q (L.getD k d) = true) : L.any q = true := by
 rw [List.any_eq_true]
 refine ⟨L[k], List.getElem_mem hk, ?_⟩
 rw [show L.getD k d = L[k] by simp [hk]] at h
 exact h
theorem any_no {α : Type} {L : List α} {q : α → Bool} {d : α} (h : ∀ k, k < L.length → q (L.getD k d) = false) : L.any q = false := by
 rw [List.any_eq_false]
 intro x hx
 obtain ⟨k, hk, rfl⟩ := List.getElem_of_mem hx
 have := h k hk
 rw [show L.getD k d = L[k] by simp [hk]] at this
 rw [this]
 exact Bool.false_ne_true
def manyP (L : List Nat) : Bool := decide (1 < L.length)
def selfE (e : EdgI) : Bool := e.1 == e.2
set_option maxRecDepth 100000 in
set_option maxHeartbeats 4000000 in
theorem round1_any (w : World) (p : Option Addr) (c : Nat) (L : List Nat) : Calls Tryd.prog 24 #[.slice p L.length c] w fun e w' => e = .returned (.bool (manyP L)) ∧ w' = w := by
 have e1 : decide ((L.length : Int) > 1) = manyP L := by
  unfold manyP
  by_cases h : 1 < L.length
  ·rw [decide_eq_true h, decide_eq_true (by omega)]
  ·rw [decide_eq_false h, decide_eq_false (by omega)]
 generalize manyP L = r at *
 go_enter Tryd.func24, Tryd.ntmps24
 go_wp2_with fail
 go_ret
 exact ⟨by first | rfl | simp [e1], rfl⟩
set_option maxRecDepth 100000 in
set_option maxHeartbeats 4000000 in
theorem round2_any (w : World) (x : EdgI) : Calls Tryd.prog 26 #[.agg #[.int .i64 x.1, .int .i64 x.2]] w fun e w' => e = .returned (.bool (selfE x)) ∧ Below w.heap.size w w' := by
 obtain ⟨a, b⟩ := x
 have hs : selfE (a, b) = (a == b) := rfl
 rw [hs]
 dsimp only
 have HBX := Blk.new w 39 [.int .i64 a, .int .i64 b]
 have HA := Lib.hid ((Below.refl w.heap.size w).alloc (Nat.le_refl _) (.cells #[.int .i64 a, .int .i64 b] 39))
 have c0 := HBX.cell 0 rfl
 have c1 := HBX.cell 1 rfl
 clear HBX
 go_enter Tryd.func26, Tryd.ntmps26
 go_wp2_with fail
 go_ret
 exact ⟨by first | rfl | trivial, HA.out⟩
set_option maxRecDepth 100000 in
set_option maxHeartbeats 4000000 in
theorem ixparts_any (w : World) (p : Option Addr) (c : Nat) (P : List (List Nat)) (hp : HasPs w p P) (hl : P.length ≤ 1000000) :
  Calls Tryd.prog 33 #[.slice p P.length c, .func (.func 24) #[] #[]] w fun e w' => ∃ i : Int, e = .returned (.int .i64 i) ∧ decide (0 ≤ i) = P.any manyP ∧ w' = w := by
 have HX := Lib.hid hp
 have en := enters_of Tryd.func24 (by kernel_rfl) rfl
 have HYes : RowKit.Hid (∀ k : Nat, k < P.length → manyP (P.getD k []) = true → decide ((0 : Int) ≤ (k : Int)) = P.any manyP) := Lib.hid (fun k hk hf => by rw [any_yes hk hf]; simp)
 have HNo : RowKit.Hid ((∀ k : Nat, k < P.length → manyP (P.getD k []) = false) → decide ((0 : Int) ≤ -1) = P.any manyP) := Lib.hid (fun h => by rw [any_no h]; rfl)
 generalize P.any manyP = R at *
 clear hp
 go_enter Tryd.func33, Tryd.ntmps33
 go_wp2_with fail
 go_loopw [8] (fun i wr => ∃ k : Nat, k ≤ P.length ∧ i = .int .i64 k ∧ (∀ j, j < k → manyP (P.getD j []) = false) ∧ wr = w) (fun i _ => P.length - (RowKit.intOf i).toNat)
 case atStart => exact ⟨0, Nat.zero_le _, rfl, fun j hj => absurd hj (Nat.not_lt_zero j), rfl⟩
 case round =>
  obtain ⟨k, hk, rfl, hn, rfl⟩ := hrel
  have HN := Lib.hid hn
  clear hn
  by_cases hk1 : k < P.length
  ·obtain ⟨g, pi, ci, rfl, a0, -⟩ := HX.out k hk1
   have HM := Lib.hid (round1_any wr pi ci (P.getD k []))
   have HY := Lib.hid (HYes.out k hk1)
   have HK : RowKit.Hid (manyP (P.getD k []) = false → ∀ j, j < k + 1 → manyP (P.getD j []) = false) := Lib.hid (fun h j hj => by
    by_cases hjk : j < k
    ·exact HN.out j hjk
    ·obtain rfl : j = k := by omega
     exact h)
   obtain ⟨b, hb⟩ : ∃ b, manyP (P.getD k []) = b := ⟨_, rfl⟩
   rw [hb] at HM HY HK
   obtain ⟨n0, hn0⟩ : ∃ n0, (P.getD k []).length = n0 := ⟨_, rfl⟩
   rw [hn0] at HM a0
   clear hb hn0
   cases b with
   | true =>
    go_wp2_with (first | (go_at_call 24; refine HM.out.mono ?_; rintro e w1 ⟨rfl, hw1⟩; subst hw1))
    go_ret
    exact ⟨_, rfl, HY.out trivial, rfl⟩
   | false =>
    go_wp2_with (first | (go_at_call 24; refine HM.out.mono ?_; rintro e w1 ⟨rfl, hw1⟩; subst hw1))
    go_roundw
    case rel => exact ⟨k + 1, by omega, by go_num, HK.out trivial, by trivial⟩
    case measure => simp [RowKit.intOf]; omega
  ·have hke : k = P.length := by omega
   subst hke
   have H1 := Lib.hid (HNo.out HN.out)
   go_wp2_with fail
   go_ret
   exact ⟨_, rfl, H1.out, rfl⟩
set_option maxRecDepth 100000 in
set_option maxHeartbeats 4000000 in
theorem ixedges_any (w : World) (p : Option Addr) (c : Nat) (L : List EdgI) (hp : HasE w p L) (hl : L.length ≤ 1000000) :
  Calls Tryd.prog 34 #[.slice p L.length c, .func (.func 26) #[] #[]] w fun e w' => ∃ i : Int, e = .returned (.int .i64 i) ∧ decide (0 ≤ i) = L.any selfE ∧ Below w.heap.size w w' := by
 have HX := Lib.hid hp
 have en := enters_of Tryd.func26 (by kernel_rfl) rfl
 have HYes : RowKit.Hid (∀ k : Nat, k < L.length → selfE (L.getD k (0, 0)) = true → decide ((0 : Int) ≤ (k : Int)) = L.any selfE) := Lib.hid (fun k hk hf => by rw [any_yes hk hf]; simp)
 have HNo : RowKit.Hid ((∀ k : Nat, k < L.length → selfE (L.getD k (0, 0)) = false) → decide ((0 : Int) ≤ -1) = L.any selfE) := Lib.hid (fun h => by rw [any_no h]; rfl)
 generalize L.any selfE = R at *
 clear hp
 go_enter Tryd.func34, Tryd.ntmps34
 go_wp2_with fail
 go_loopw [8] (fun i wr => ∃ k : Nat, k ≤ L.length ∧ i = .int .i64 k ∧ (∀ j, j < k → selfE (L.getD j (0, 0)) = false) ∧ Below w.heap.size w wr) (fun i _ => L.length - (RowKit.intOf i).toNat)
 case atStart => exact ⟨0, Nat.zero_le _, rfl, fun j hj => absurd hj (Nat.not_lt_zero j), Below.refl _ _⟩
 case round =>
  obtain ⟨k, hk, rfl, hn, hbw⟩ := hrel
  have HN := Lib.hid hn
  clear hn
  by_cases hk1 : k < L.length
  ·obtain ⟨g, rfl, b0, b1⟩ := HX.out k hk1
   have a0 := cell_later hbw b0
   have a1 := cell_later hbw b1
   have HM := Lib.hid (round2_any wr (L.getD k (0, 0)))
   have HY := Lib.hid (HYes.out k hk1)
   have HK : RowKit.Hid (selfE (L.getD k (0, 0)) = false → ∀ j, j < k + 1 → selfE (L.getD j (0, 0)) = false) := Lib.hid (fun h j hj => by
    by_cases hjk : j < k
    ·exact HN.out j hjk
    ·obtain rfl : j = k := by omega
     exact h)
   obtain ⟨b, hb⟩ : ∃ b, selfE (L.getD k (0, 0)) = b := ⟨_, rfl⟩
   rw [hb] at HM HY HK
   obtain ⟨⟨t1, t2⟩, ht⟩ : ∃ t, L.getD k (0, 0) = t := ⟨_, rfl⟩
   rw [ht] at HM a0 a1
   simp only at HM a0 a1
   clear b0 b1 hb ht
   cases b with
   | true =>
    go_wp2_with (first | (go_at_call 26; refine HM.out.mono ?_; rintro e w1 ⟨rfl, hb1⟩))
    go_ret
    exact ⟨_, rfl, HY.out trivial, below_next hbw hb1⟩
   | false =>
    go_wp2_with (first | (go_at_call 26; refine HM.out.mono ?_; rintro e w1 ⟨rfl, hb1⟩))
    go_roundw
    case rel => exact ⟨k + 1, by omega, by go_num, HK.out trivial, below_next hbw hb1⟩
    case measure => simp [RowKit.intOf]; omega
  ·have hke : k = L.length := by omega
   subst hke
   have H1 := Lib.hid (HNo.out HN.out)
   go_wp2_with fail
   go_ret
   exact ⟨_, rfl, H1.out, hbw⟩
set_option maxRecDepth 100000 in
set_option maxHeartbeats 4000000 in
theorem cfparts_any (w : World) (p : Option Addr) (c : Nat) (P : List (List Nat)) (hp : HasPs w p P) (hl : P.length ≤ 1000000) :
  Calls Tryd.prog 23 #[.slice p P.length c, .func (.func 24) #[] #[]] w fun e w' => e = .returned (.bool (P.any manyP)) ∧ w' = w := by
 have H1 := Lib.hid (ixparts_any w p c P hp hl)
 generalize P.any manyP = R at *
 clear hp hl
 go_enter Tryd.func23, Tryd.ntmps23
 go_wp2_with fail
 refine H1.out.mono ?_
 rintro e w1 ⟨i, rfl, hi, hw⟩
 subst hw
 have HI := Lib.hid hi
 clear hi
 go_wp2_with fail
 go_ret
 refine ⟨?_, rfl⟩
 rw [← HI.out]
 rfl
set_option maxRecDepth 100000 in
set_option maxHeartbeats 4000000 in
theorem cfedges_any (w : World) (p : Option Addr) (c : Nat) (L : List EdgI) (hp : HasE w p L) (hl : L.length ≤ 1000000) :
  Calls Tryd.prog 25 #[.slice p L.length c, .func (.func 26) #[] #[]] w fun e w' => e = .returned (.bool (L.any selfE)) ∧ Below w.heap.size w w' := by
 have H1 := Lib.hid (ixedges_any w p c L hp hl)
 generalize L.any selfE = R at *
 clear hp hl
 go_enter Tryd.func25, Tryd.ntmps25
 go_wp2_with fail
 refine H1.out.mono ?_
 rintro e w1 ⟨i, rfl, hi, hb1⟩
 have HI := Lib.hid hi
 clear hi
 go_wp2_with fail
 go_ret
 refine ⟨?_, hb1⟩
 rw [← HI.out]
 rfl
theorem round_any {n : Nat} {N : List EdgM} {P : List (List Nat)} (h : PartsK n (EdgL N) n P) (hN : ∀ e ∈ N, e.1 < n ∧ e.2 < n) : (P.any manyP || (intsE N).any selfE) = true ↔ ∃ a, Relation.TransGen (EdgL N) a a := by
 rw [round_parts h (edgL_lt hN), Bool.or_eq_true, List.any_eq_true, List.any_eq_true]
 refine or_congr ⟨fun ⟨L, hL, e⟩ => ⟨L, hL, by simpa [manyP] using e⟩, fun ⟨L, hL, e⟩ => ⟨L, hL, by simpa [manyP] using e⟩⟩ ⟨fun ⟨x, hx, e⟩ => ?_, fun ⟨a, ha⟩ => ⟨((a : Int), (a : Int)), List.mem_map.2 ⟨(a, a), ha, rfl⟩, by simp [selfE]⟩⟩
 obtain ⟨⟨a, b⟩, hm, rfl⟩ := List.mem_map.1 hx
 have e2 : ((a : Int)) = (b : Int) := by simpa [selfE] using e
 have e3 : a = b := by omega
 subst e3
 exact ⟨a, hm⟩
set_option maxRecDepth 100000 in
set_option maxHeartbeats 4000000 in
theorem pround_ok (n : Nat) (hn : n ≤ 500) (p : Option Addr) (c : Nat) (N : List EdgM) (hN : ∀ e ∈ N, e.1 < n ∧ e.2 < n) (w : World) (h : HasE w p (intsE N)) (hl : N.length ≤ 900) (hT : TabAt 0 Lib.deBruijn64tab w) (hTg : 0 < w.heap.size) :
  Calls Tryd.prog 14 #[.int .i64 (n : Nat), .slice p N.length c] w fun e w' => ∃ b, e = .returned (.tuple #[.bool b, .int .i64 0]) ∧ (b = true ↔ ∃ a, Relation.TransGen (EdgL N) a a) ∧ Below w.heap.size w w' := by
 have HO := Lib.hid (pof_ok n hn p c N hN w h hl hT hTg)
 have HE := Lib.hid h
 have HN := Lib.hid hN
 clear h hT hTg hN
 go_enter Tryd.func14, Tryd.ntmps14
 go_wp2_with fail
 refine HO.out.mono ?_
 rintro e w1 ⟨p', c', P, rfl, hpk, hps, hb1⟩
 have HC1 := Lib.hid (cfparts_any w1 p' c' P hps (by have := parts_few hpk; omega))
 have he2 := cfedges_any w1 p c (intsE N) (HE.out.below hb1) (by rw [intsE_len]; omega)
 rw [intsE_len] at he2
 have HC2 := Lib.hid he2
 have HB1 := Lib.hid hb1
 have HR := Lib.hid (round_any hpk HN.out)
 clear hpk hps he2 hb1 HO HE
 generalize P.any manyP = b1 at HC1 HR
 generalize (intsE N).any selfE = b2 at HC2 HR
 cases b1 with
 | true =>
  go_wp2_with fail
  refine HC1.out.mono ?_
  rintro e w2 ⟨rfl, hw⟩
  subst hw
  go_wp2_with fail
  go_returns
  exact ⟨true, rfl, by simpa using HR.out, HB1.out⟩
 | false =>
  go_wp2_with fail
  refine HC1.out.mono ?_
  rintro e w2 ⟨rfl, hw⟩
  subst hw
  go_wp2_with fail
  refine HC2.out.mono ?_
  rintro e w3 ⟨rfl, hb3⟩
  go_wp2_with fail
  go_returns
  exact ⟨b2, rfl, by simpa using HR.out, below_next HB1.out hb3⟩
set_option maxRecDepth 100000 in
set_option maxHeartbeats 4000000 in
theorem pround_no (n : Int) (p : Option Addr) (c : Nat) (L : List EdgI) (w : World) (h : HasE w p L) (hl : L.length ≤ 900) (hno : n < 0 ∨ 500 < n ∨ okE n.toNat L = false) :
  Calls Tryd.prog 14 #[.int .i64 n, .slice p L.length c] w fun e w' => e = .returned (.tuple #[.bool false, .int .i64 2]) ∧ Below w.heap.size w w' := by
 have HO := Lib.hid (pof_no n p c L w h hl hno)
 clear h hl hno
 go_enter Tryd.func14, Tryd.ntmps14
 go_wp2_with fail
 refine HO.out.mono ?_
 rintro e w1 ⟨rfl, hb1⟩
 go_wp2_with fail
 go_returns
 exact ⟨rfl, hb1⟩
end Go.Proofs.YtldcbapjiflblaaDoor
