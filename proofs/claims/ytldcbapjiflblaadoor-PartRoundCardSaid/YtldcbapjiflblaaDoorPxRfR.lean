/-
  Layers 19 and 20: the document's May and Round, and the laws' Small and Few, walked. No conditions.
-/
import Derived.Test.YtldcbapjiflblaaDoorPPg
import Derived.Test.YtldcbapjiflblaaDoorPxPoP
namespace Go.Proofs.YtldcbapjiflblaaDoor
open Go.RowKit Go.Lib
theorem own_natsP {w : World} {B : Nat} {e : TypeId} {v : Value} {L : List Nat} (h : w.ownsRow B e 1 v L.length (vnats L)) : IntsS w v (intsP L) := by
 have h1 : w.ownsRow B e 1 v (intsP L).length (vints (intsP L)) := by
  rw [intsP_len, show vints (intsP L) = vnats L by simp [vints, intsP, vnats]]
  exact h
 exact own_intsI h1
theorem mem_ints (L : List Nat) (a : Nat) : (intsP L).contains (a : Int) = decide (a ∈ L) := by
 by_cases h : a ∈ L
 ·rw [decide_eq_true h, List.contains_iff_mem]
  exact List.mem_map.2 ⟨a, h, rfl⟩
 ·rw [decide_eq_false h]
  cases hc : (intsP L).contains (a : Int) with
  | false => rfl
  | true =>
   rw [List.contains_iff_mem] at hc
   obtain ⟨b, hb, e⟩ := List.mem_map.1 hc
   have : b = a := by exact Int.ofNat.inj e
   exact absurd (this ▸ hb) h
theorem from_len (n : Nat) (N : List EdgM) (a : Nat) : (fromF n N a).length ≤ n := by
 unfold fromF
 have := List.length_filter_le (fun b => @decide (Relation.TransGen (EdgL N) a b) (Classical.propDecidable _)) (List.range n)
 rw [List.length_range] at this
 exact this
set_option maxRecDepth 100000 in
set_option maxHeartbeats 4000000 in
theorem hasfrom_any {w : World} {v : Value} {B : Nat} (n : Nat) (hn : n ≤ 500) (N : List EdgM) (a b : Nat) (hb : b < n) (h : w.ownsRow B 3 1 v (fromF n N a).length (vnats (fromF n N a))) :
  Calls Tryd.prog 22 #[v, .int .i64 (b : Nat)] w fun e w' => ∃ r, e = .returned (.bool r) ∧ (r = true ↔ Relation.TransGen (EdgL N) a b) ∧ Below w.heap.size w w' := by
 refine (hasint_any (b : Int) (own_natsP h) (by rw [intsP_len]; have := from_len n N a; omega)).mono ?_
 rintro e w' ⟨rfl, hb'⟩
 refine ⟨_, rfl, ?_, hb'⟩
 rw [mem_ints, decide_eq_true_eq, mem_from]
 exact ⟨fun q => q.2, fun q => ⟨hb, q⟩⟩
set_option maxRecDepth 100000 in
set_option maxHeartbeats 4000000 in
theorem rround_any (n : Nat) (hn : n ≤ 500) (p : Option Addr) (c : Nat) (N : List EdgM) (hN : ∀ e ∈ N, e.1 < n ∧ e.2 < n) (w : World) (h : HasE w p (intsE N)) (hL : N.length ≤ 900) :
  Calls Tryd.prog 15 #[.int .i64 (n : Nat), .slice p N.length c] w fun e w' => ∃ b, e = .returned (.bool b) ∧ (b = true ↔ ∃ a, Relation.TransGen (EdgL N) a a) ∧ Below w.heap.size w w' := by
 have HX := Lib.hid h
 have HN := Lib.hid hN
 clear h hN
 go_enter Tryd.func15, Tryd.ntmps15
 go_wp2_with fail
 go_loopw [5] (fun i wr => ∃ k : Nat, k ≤ n ∧ i = .int .i64 k ∧ (∀ a, a < k → ¬ Relation.TransGen (EdgL N) a a) ∧ Below w.heap.size w wr) (fun i _ => n - (RowKit.intOf i).toNat)
 case atStart => exact ⟨0, Nat.zero_le _, rfl, fun a ha => absurd ha (Nat.not_lt_zero a), Below.refl _ _⟩
 case round =>
  obtain ⟨k, hk, rfl, hno, hbw⟩ := hrel
  have HNo := Lib.hid hno
  clear hno
  by_cases hlt : k < n
  ·have HF := Lib.hid (rfrom_any n hn p c N HN.out k wr (HX.out.below hbw) hL)
   have HB := Lib.hid hbw
   clear hbw
   go_wp2_with fail
   refine HF.out.mono ?_
   rintro e w1 ⟨v, rfl, hown, hb1⟩
   have HI := Lib.hid (hasfrom_any n hn N k k hlt hown)
   have HB1 := Lib.hid (below_next HB.out hb1)
   obtain ⟨pv, cv, rfl⟩ := owns_form hown
   clear hown hb1 HF
   go_wp2_with fail
   refine HI.out.mono ?_
   rintro e w2 ⟨r, rfl, hr, hb2⟩
   have HR := Lib.hid hr
   have HB2 := Lib.hid (below_next HB1.out hb2)
   clear hr hb2 HI
   cases r with
   | true =>
    go_wp2_with fail
    go_ret
    exact ⟨true, rfl, ⟨fun _ => ⟨k, HR.out.1 (by first | rfl | trivial)⟩, fun _ => rfl⟩, HB2.out⟩
   | false =>
    go_wp2_with fail
    go_roundw
    case rel => exact ⟨k + 1, by omega, by go_num, fun a ha => by
     by_cases e : a = k
     ·subst e
      exact fun q => by cases HR.out.2 q
     ·exact HNo.out a (by omega), HB2.out⟩
    case measure => simp [RowKit.intOf]; omega
  ·have hke : k = n := by omega
   subst hke
   have HB := Lib.hid hbw
   clear hbw
   go_wp2_with fail
   go_ret
   exact ⟨false, rfl, ⟨fun q => (by cases q), fun ⟨a, ha⟩ => absurd ha (HNo.out a (by
    cases ha with
    | single e => exact (edgL_lt HN.out _ _ e).1
    | tail _ e => exact (edgL_lt HN.out _ _ e).2))⟩, HB.out⟩
def mayG (n : Int) (L : List EdgI) : Bool := decide (0 ≤ n) && decide (n ≤ 500) && okE n.toNat L
theorem may_no {n : Int} {L : List EdgI} (h : mayG n L = false) : n < 0 ∨ 500 < n ∨ okE n.toNat L = false := by
 unfold mayG at h
 by_cases h1 : 0 ≤ n
 ·by_cases h2 : n ≤ 500
  ·right; right; simpa [h1, h2] using h
  ·right; left; omega
 ·left; omega
theorem may_yes {n : Int} {L : List EdgI} (h : mayG n L = true) : ∃ (k : Nat) (N : List EdgM), n = k ∧ k ≤ 500 ∧ L = intsE N ∧ ∀ e ∈ N, e.1 < k ∧ e.2 < k := by
 unfold mayG at h
 simp only [Bool.and_eq_true, decide_eq_true_eq] at h
 obtain ⟨N, hN, hb⟩ := ok_nats h.2
 exact ⟨n.toNat, N, by omega, by omega, hN, hb⟩
set_option maxRecDepth 100000 in
set_option maxHeartbeats 4000000 in
theorem rmay19_any (n : Int) (p : Option Addr) (c : Nat) (L : List EdgI) (w : World) (h : HasE w p L) (hL : L.length ≤ 900) :
  Calls Tryd.prog 20 #[.int .i64 n, .slice p L.length c] w fun e w' => e = .returned (.bool (mayG n L)) ∧ w' = w := by
 have HX := Lib.hid h
 clear h
 by_cases h1 : n < 0
 ·have hm : mayG n L = false := by unfold mayG; simp; omega
  rw [hm]
  clear hm
  go_enter Tryd.func20, Tryd.ntmps20
  go_wp2_with fail
  go_ret
  exact ⟨rfl, rfl⟩
 by_cases h2 : 500 < n
 ·have hm : mayG n L = false := by unfold mayG; simp; omega
  rw [hm]
  clear hm
  go_enter Tryd.func20, Tryd.ntmps20
  go_wp2_with fail
  go_ret
  exact ⟨rfl, rfl⟩
 obtain ⟨m, rfl⟩ : ∃ m : Nat, n = m := ⟨n.toNat, by omega⟩
 have hm : mayG (m : Int) L = okE m L := by
  unfold mayG
  rw [show decide (0 ≤ (m : Int)) = true by simp, show decide ((m : Int) ≤ 500) = true by simp; omega]
  simp
 rw [hm]
 obtain ⟨R, hR⟩ : ∃ R, okE m L = R := ⟨_, rfl⟩
 rw [hR]
 have HYes : RowKit.Hid (∀ k : Nat, k < L.length → okG m (L.getD k (0, 0)) = false → R = false) := Lib.hid (fun k hk hf => by
  rw [← hR]
  unfold okE
  rw [List.all_eq_false]
  refine ⟨L.getD k (0, 0), ?_, by rw [hf]; exact Bool.false_ne_true⟩
  rw [show L.getD k (0, 0) = L[k] by simp [hk]]
  exact List.getElem_mem hk)
 have HNo : RowKit.Hid ((∀ k : Nat, k < L.length → okG m (L.getD k (0, 0)) = true) → R = true) := Lib.hid (fun h => by
  rw [← hR]
  unfold okE
  rw [List.all_eq_true]
  intro x hx
  obtain ⟨k, hk, rfl⟩ := List.getElem_of_mem hx
  have := h k hk
  simpa [hk] using this)
 clear hm hR h1
 go_enter Tryd.func20, Tryd.ntmps20
 go_wp2_with fail
 go_loopw [5] (fun i wr => ∃ k : Nat, k ≤ L.length ∧ i = .int .i64 k ∧ (∀ j, j < k → okG m (L.getD j (0, 0)) = true) ∧ wr = w) (fun i _ => L.length - (RowKit.intOf i).toNat)
 case atStart => exact ⟨0, Nat.zero_le _, rfl, fun j hj => absurd hj (Nat.not_lt_zero j), rfl⟩
 case round =>
  obtain ⟨k, hk, rfl, hn, rfl⟩ := hrel
  have HN := Lib.hid hn
  clear hn
  by_cases hlt : k < L.length
  ·obtain ⟨g, rfl, a0, a1⟩ := HX.out k hlt
   have HY := Lib.hid (HYes.out k hlt)
   have HK : RowKit.Hid (okG m (L.getD k (0, 0)) = true → ∀ j, j < k + 1 → okG m (L.getD j (0, 0)) = true) := Lib.hid (fun h j hj => by
    by_cases hjk : j < k
    ·exact HN.out j hjk
    ·obtain rfl : j = k := by omega
     exact h)
   obtain ⟨⟨x, y⟩, ht⟩ : ∃ t, L.getD k (0, 0) = t := ⟨_, rfl⟩
   rw [ht] at HY HK a0 a1
   dsimp only at a0 a1
   clear ht HN
   have hok : okG m (x, y) = (decide (0 ≤ x) && decide (x < (m : Int)) && (decide (0 ≤ y) && decide (y < (m : Int)))) := rfl
   by_cases q1 : x < 0
   ·have hf : okG m (x, y) = false := by rw [hok]; simp; omega
    have HR := Lib.hid (HY.out hf)
    clear hok hf
    go_wp2_with fail
    go_ret
    exact ⟨by rw [HR.out] <;> rfl, rfl⟩
   by_cases q2 : y < 0
   ·have hf : okG m (x, y) = false := by rw [hok]; simp; omega
    have HR := Lib.hid (HY.out hf)
    clear hok hf
    go_wp2_with fail
    go_ret
    exact ⟨by rw [HR.out] <;> rfl, rfl⟩
   by_cases q3 : x ≥ (m : Int)
   ·have hf : okG m (x, y) = false := by rw [hok]; simp; omega
    have HR := Lib.hid (HY.out hf)
    clear hok hf
    go_wp2_with fail
    go_ret
    exact ⟨by rw [HR.out] <;> rfl, rfl⟩
   by_cases q4 : y ≥ (m : Int)
   ·have hf : okG m (x, y) = false := by rw [hok]; simp; omega
    have HR := Lib.hid (HY.out hf)
    clear hok hf
    go_wp2_with fail
    go_ret
    exact ⟨by rw [HR.out] <;> rfl, rfl⟩
   have ht : okG m (x, y) = true := by rw [hok]; simp; omega
   have HR := Lib.hid (HK.out ht)
   clear hok ht
   go_wp2_with fail
   go_roundw
   case rel => exact ⟨k + 1, by omega, by go_num, HR.out, by trivial⟩
   case measure => simp [RowKit.intOf]; omega
  ·have hke : k = L.length := by omega
   subst hke
   have HR := Lib.hid (HNo.out HN.out)
   go_wp2_with fail
   go_ret
   exact ⟨by rw [HR.out] <;> rfl, rfl⟩
set_option maxRecDepth 100000 in
set_option maxHeartbeats 4000000 in
theorem rmay20_any (n : Int) (p : Option Addr) (c : Nat) (L : List EdgI) (w : World) (h : HasE w p L) (hL : L.length ≤ 900) :
  Calls Tryd.prog 10 #[.int .i64 n, .slice p L.length c] w fun e w' => e = .returned (.bool (mayG n L)) ∧ w' = w := by
 have H1 := Lib.hid (rmay19_any n p c L w h hL)
 generalize mayG n L = R at *
 clear h
 go_enter Tryd.func10, Tryd.ntmps10
 go_wp2_with fail
 refine H1.out.mono ?_
 rintro e w1 ⟨rfl, hw⟩
 subst hw
 go_wp2_with fail
 go_ret
 exact ⟨rfl, rfl⟩
def smallG (n : Int) : Int := if 30 < n ∧ n ≤ 500 then n.tmod 31 else n
set_option maxRecDepth 100000 in
set_option maxHeartbeats 4000000 in
theorem small19_any (n : Int) (w : World) : Calls Tryd.prog 6 #[.int .i64 n] w fun e w' => e = .returned (.int .i64 (smallG n)) ∧ w' = w := by
 obtain ⟨r, hr⟩ : ∃ r, smallG n = r := ⟨_, rfl⟩
 unfold smallG at hr
 rw [show smallG n = (if 30 < n ∧ n ≤ 500 then n.tmod 31 else n) from rfl]
 by_cases h1 : 30 < n
 ·by_cases h2 : n ≤ 500
  ·rw [if_pos ⟨h1, h2⟩]
   have e1 : IntKind.i64.wrap (n.tmod 31) = n.tmod 31 := by
    rw [IntKind.wrap_i64, Int.tmod_eq_emod_of_nonneg (by omega)]
    omega
   have HE2 := Lib.hid (show n.tmod 31 = n % 31 from Int.tmod_eq_emod_of_nonneg (by omega))
   clear hr
   go_enter Tryd.func6, Tryd.ntmps6
   go_wp2_with fail
   go_ret
   exact ⟨by rw [HE2.out] <;> rfl, rfl⟩
  ·rw [if_neg (fun q => h2 q.2)]
   clear hr
   go_enter Tryd.func6, Tryd.ntmps6
   go_wp2_with fail
   go_ret
   exact ⟨rfl, rfl⟩
 ·rw [if_neg (fun q => h1 q.1)]
  clear hr
  go_enter Tryd.func6, Tryd.ntmps6
  go_wp2_with fail
  go_ret
  exact ⟨rfl, rfl⟩
end Go.Proofs.YtldcbapjiflblaaDoor
