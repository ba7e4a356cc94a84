/-
  Layer 20 (part): part.Which walked: the part of each node. No conditions but that math/bits's table is as its initialiser lays it.
-/
import Derived.Test.YtldcbapjiflblaaDoorPxPoA
namespace Go.Proofs.YtldcbapjiflblaaDoor
open Go.RowKit Go.Lib
theorem which_all {n : Nat} {E : Nat → Nat → Prop} {P : List (List Nat)} (h : PartsK n E n P) {f : Nat → Nat} (hf : ∀ j, j < P.length → ∀ x ∈ P.getD j [], f x = j) (x : Nat) (hx : x < n) : f x = whichP P x := by
 obtain ⟨L, hL, hxL⟩ := h.al x hx
 obtain ⟨j, hj, rfl⟩ := List.getElem_of_mem hL
 rw [which_at h j hj x hxL]
 exact hf j hj x (by simpa [hj] using hxL)
theorem part_apartG {n : Nat} {E : Nat → Nat → Prop} {P : List (List Nat)} (h : PartsK n E n P) (j k : Nat) (hjk : j < k) (hk : k < P.length) (x : Nat) (h1 : x ∈ P.getD j []) (h2 : x ∈ P.getD k []) : False := by
 have hj : j < P.length := by omega
 have a := which_at h j hj x (by simpa [hj] using h1)
 have b := which_at h k hk x (by simpa [hk] using h2)
 omega
set_option maxRecDepth 100000 in
set_option maxHeartbeats 4000000 in
theorem pwhich_ok (n : Nat) (hn : n ≤ 500) (p : Option Addr) (c : Nat) (N : List EdgM) (hN : ∀ e ∈ N, e.1 < n ∧ e.2 < n) (w : World) (h : HasE w p (intsE N)) (hl : N.length ≤ 900) (hT : TabAt 0 Lib.deBruijn64tab w) (hTg : 0 < w.heap.size) :
  Calls Tryd.prog 9 #[.int .i64 (n : Nat), .slice p N.length c] w fun e w' => ∃ g P f, e = .returned (.tuple #[.slice (some ⟨g, 0, none⟩) n n, .int .i64 0]) ∧ PartsK n (EdgL N) n P ∧ Blk w' g 3 (vnats (NumL n f)) ∧ (∀ x, x < n → f x = whichP P x) ∧ Below w.heap.size w w' := by
 have HO := Lib.hid (pof_ok n hn p c N hN w h hl hT hTg)
 obtain ⟨i1, hj, hj0, hj1, hj2⟩ := info_parts info_nat
 have mkI : ∀ W : World, (Instr.makeSlice 29 (.int .i64 (n : Int)) (.int .i64 (n : Int))).run Tryd.prog W = .ok (.slice (some ⟨W.heap.size, 0, none⟩) n n) (W.alloc (.cells (vnats (NumL n fun _ => 0)).toArray 3)) := fun W => by
  have hr := run_make (P := Tryd.prog) W 29 3 i1 (.int .i64 0) Tryd.underlying29 hj hj0 .i64 .i64 n n (by omega) (Int.le_refl _) (by rw [hj2]; omega) (by omega)
  rw [hj1] at hr
  rw [← made_num]
  simp only [Int.toNat_natCast, Nat.mul_one] at hr
  exact hr
 clear h hT hTg hN hj hj0 hj1 hj2
 go_enter Tryd.func9, Tryd.ntmps9
 go_wp2_with fail
 refine HO.out.mono ?_
 rintro e W1 ⟨p', c', P, rfl, hpk, hps, hb1⟩
 have HPk := Lib.hid hpk
 have HPs := Lib.hid hps
 have HB1 := Lib.hid hb1
 have HBn := Lib.hid (Blk.new W1 3 (vnats (NumL n fun _ => 0)))
 have HA := Lib.hid ((Below.refl W1.heap.size W1).alloc (Nat.le_refl _) (.cells (vnats (NumL n fun _ => 0)).toArray 3))
 have hpl : P.length ≤ 500 := Nat.le_trans (parts_few hpk) hn
 clear hpk hps hb1 HO
 go_wp2_with fail
 try simp only [NumL] at HBn HA
 obtain ⟨gw, hgw⟩ : ∃ q, W1.heap.size = q := ⟨_, rfl⟩
 have HGw := Lib.hid hgw
 rw [hgw] at HBn
 try simp only [hgw]
 clear mkI hgw
 go_loopw [26] (fun i wr => ∃ k : Nat, k ≤ P.length ∧ i = .int .i64 k ∧ (∃ f : Nat → Nat, Blk wr gw 3 (vnats (NumL n f)) ∧ ∀ j, j < k → ∀ x ∈ P.getD j [], f x = j) ∧ Below W1.heap.size W1 wr) (fun i _ => P.length - (RowKit.intOf i).toNat)
 case atStart => exact ⟨0, Nat.zero_le _, rfl, ⟨fun _ => 0, HBn.out, fun j hj => absurd hj (Nat.not_lt_zero j)⟩, HA.out⟩
 case round =>
  obtain ⟨k, hk, rfl, ⟨f, hB, hf⟩, hbw⟩ := hrel
  by_cases hlt : k < P.length
  ·obtain ⟨gp, pi, ci, rfl, hc, hi⟩ := HPs.out k hlt
   have c0 := cell_later hbw hc
   obtain ⟨L, hL⟩ : ∃ L, P.getD k [] = L := ⟨_, rfl⟩
   rw [hL] at hc hi c0
   have HIn := Lib.hid hi
   have HL := Lib.hid hL
   have HB := Lib.hid hB
   have HF := Lib.hid hf
   have HBw := Lib.hid hbw
   have HLn : RowKit.Hid (∀ x ∈ L, x < n) := Lib.hid (fun x hx => by
    rw [← HL.out, show P.getD k [] = P[k] by simp [hlt]] at hx
    exact (HPk.out.cl _ (List.getElem_mem hlt) x hx).1)
   have HLl : RowKit.Hid (L.length ≤ 500) := Lib.hid (by
    have hm : L ∈ P := by
     rw [← HL.out, show P.getD k [] = P[k] by simp [hlt]]
     exact List.getElem_mem hlt
    have h9 := nodup_few (m := List.range n) ((HPk.out.so L hm).imp fun {a b} hab e => by omega) (fun x hx => List.mem_range.2 (HLn.out x hx))
    rw [List.length_range] at h9
    omega)
   have hll := HLl.out
   clear hc hi hL hB hf hbw
   go_wp2_with fail
   clear c0
   obtain ⟨wo, rfl⟩ : ∃ q, q = wr := ⟨_, rfl⟩
   go_loopw [33] (fun i wx => ∃ m : Nat, m ≤ L.length ∧ i = .int .i64 m ∧ (∃ f : Nat → Nat, Blk wx gw 3 (vnats (NumL n f)) ∧ (∀ j, j < k → ∀ x ∈ P.getD j [], f x = j) ∧ ∀ q, q < m → f (L.getD q 0) = k) ∧ Below W1.heap.size W1 wx) (fun i _ => L.length - (RowKit.intOf i).toNat)
   case atStart => exact ⟨0, Nat.zero_le _, rfl, ⟨f, HB.out, HF.out, fun j hj => absurd hj (Nat.not_lt_zero j)⟩, HBw.out⟩
   case round =>
    obtain ⟨m, hm, rfl, ⟨f2, hB2, hf2, hq2⟩, hbw2⟩ := hrel
    by_cases hlm : m < L.length
    ·obtain ⟨gi, oi, rfl, b0⟩ := HIn.out m (by rw [intsP_len]; exact hlm)
     rw [intsP_at] at b0
     have a0 := cell_later hbw2 b0
     obtain ⟨a, ha⟩ : ∃ a, L.getD m 0 = a := ⟨_, rfl⟩
     rw [ha] at a0
     have haL : a ∈ L := by
      rw [← ha, show L.getD m 0 = L[m] by simp [hlm]]
      exact List.getElem_mem hlm
     have han := HLn.out a haL
     have d1 := hB2.cell a (numL_zero n a han _)
     have f1 := hB2.frozen a
     have HB3 := Lib.hid (hB2.set a (.int .i64 (k : Nat)))
     have HBw3 := Lib.hid (hbw2.setCell (p := ⟨gw, a, none⟩) (Nat.le_of_eq HGw.out) (.int .i64 (k : Nat)))
     have HF3 : RowKit.Hid (∀ j, j < k → ∀ x ∈ P.getD j [], updP f2 a k x = j) := Lib.hid (fun j hj x hx => by
      have hxa : x ≠ a := fun e => by
       subst e
       exact part_apartG HPk.out j k hj hlt x hx (by rw [HL.out]; exact haL)
      rw [updP_other _ hxa]
      exact hf2 j hj x hx)
     have HQ3 : RowKit.Hid (∀ q, q < m + 1 → updP f2 a k (L.getD q 0) = k) := Lib.hid (fun q hq => by
      by_cases e : L.getD q 0 = a
      ·rw [e, updP_same]
      ·rw [updP_other _ e]
       refine hq2 q ?_
       by_cases e2 : q = m
       ·subst e2; exact absurd ha e
       ·omega)
     clear b0 ha haL hB2 hf2 hq2 hbw2
     go_wp2_with fail
     go_roundw
     case rel => exact ⟨m + 1, by omega, by go_num, ⟨updP f2 a k, by rw [← numL_set, ← vnats_set]; exact HB3.out, HF3.out, HQ3.out⟩, HBw3.out⟩
     case measure => simp [RowKit.intOf]; omega
    ·have hme : m = L.length := by omega
     subst hme
     have HB4 := Lib.hid hB2
     have HF4 : RowKit.Hid (∀ j, j < k + 1 → ∀ x ∈ P.getD j [], f2 x = j) := Lib.hid (fun j hj x hx => by
      by_cases e : j = k
      ·subst e
       rw [HL.out] at hx
       obtain ⟨q, hq, e2⟩ := List.getElem_of_mem hx
       have := hq2 q hq
       rw [show L.getD q 0 = L[q] by simp [hq], e2] at this
       exact this
      ·exact hf2 j (by omega) x hx)
     have HBw4 := Lib.hid hbw2
     clear hB2 hf2 hq2 hbw2
     go_wp2_with fail
     go_roundw
     case rel => exact ⟨k + 1, by omega, by go_num, ⟨f2, HB4.out, HF4.out⟩, HBw4.out⟩
     case measure => simp [RowKit.intOf]; omega
  ·have hke : k = P.length := by omega
   subst hke
   have HB5 := Lib.hid hB
   have HF5 := Lib.hid hf
   have HBw5 := Lib.hid hbw
   clear hB hf hbw
   go_wp2_with fail
   go_returns
   exact ⟨gw, P, f, rfl, HPk.out, HB5.out, which_all HPk.out HF5.out, below_next HB1.out HBw5.out⟩
set_option maxRecDepth 100000 in
set_option maxHeartbeats 4000000 in
theorem pwhich_no (n : Int) (p : Option Addr) (c : Nat) (L : List EdgI) (w : World) (h : HasE w p L) (hl : L.length ≤ 900) (hno : n < 0 ∨ 500 < n ∨ okE n.toNat L = false) :
  Calls Tryd.prog 9 #[.int .i64 n, .slice p L.length c] w fun e w' => e = .returned (.tuple #[.slice none 0 0, .int .i64 2]) ∧ Below w.heap.size w w' := by
 have HO := Lib.hid (pof_no n p c L w h hl hno)
 clear h hl hno
 go_enter Tryd.func9, Tryd.ntmps9
 go_wp2_with fail
 refine HO.out.mono ?_
 rintro e w1 ⟨rfl, hb1⟩
 go_wp2_with fail
 go_returns
 exact ⟨rfl, hb1⟩
end Go.Proofs.YtldcbapjiflblaaDoor
