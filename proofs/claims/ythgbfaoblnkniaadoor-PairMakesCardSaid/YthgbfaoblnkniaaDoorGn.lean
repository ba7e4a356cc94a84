/-
  Layer 10 (pair), the document's answer: put, walked. No conditions.
  Layer 10 (pair), the document's answer: Put, walked. Conditions: names of at most 1,000,000 bytes.
  The walks of layer 9's reference (table): a table or not, a name found, a name put in. No conditions.
  The walks of layer 9's reference (table): a name found, a name put in, names' numbers. No conditions.
-/
import Derived.Test.YthgbfaoblnkniaaDoorGxPbP1
import Derived.Test.YthgbfaoblnkniaaDoorGxPbP2
import Derived.Test.YthgbfaoblnkniaaDoorGxPbP3
import Derived.Test.YthgbfaoblnkniaaDoorGxPbP4
import Derived.Test.YthgbfaoblnkniaaDoorGxEvM
import Derived.Test.YthgbfaoblnkniaaDoorGg
import Derived.Test.YthgbfaoblnkniaaDoorGf
import Derived.Test.YthgbfaoblnkniaaDoorGxPaQ
import Derived.IntWalk
namespace Go.Proofs.YthgbfaoblnkniaaDoor
open Go.RowKit Go.Lib Go.Maps
theorem rput10_any {w : World} {B gm : Nat} {L : List DraftM} {vT vN vK vL vO : Value} {E : List EntR} (k vk n ln : Int) (s key : List UInt8) (h : WI w B gm L vT vN vK vL vO E) (hG : GoodL L) (hs : s.length ≤ 1000000) (hkey : key.length ≤ 1000000) (hB : B ≤ w.heap.size) :
  Calls Tryd.prog 29 #[.pointer (some ⟨gm, 0, none⟩), .agg #[.int .i64 k, .string (bs s), .string (bs key), .int .i64 vk, .int .i64 n, .int .i64 ln]] w fun e w' => ∃ vT' vN' vK' vL' vO' E', e = .returned (.int .i64 (putP L (k, s, key, vk, n, ln)).2) ∧ WI w' B gm (putP L (k, s, key, vk, n, ln)).1 vT' vN' vK' vL' vO' E' ∧ Below B w w' := by
 cases hmb : mayE (k, s, key, vk, n, ln) with
 | false => exact rput10_no k vk n ln s key h hG hs hkey hB hmb
 | true =>
  obtain ⟨-, h1, h6, -⟩ := mayE_nm _ hmb
  have hk : k = 1 ∨ k = 2 ∨ k = 3 ∨ k = 4 ∨ k = 5 ∨ k = 6 := by dsimp only at h1 h6; omega
  rcases hk with hk | hk | hk | hk | hk | hk
  ·exact rput10_k1 k vk n ln s key h hG hs hkey hB hmb hk
  ·exact rput10_k2 k vk n ln s key h hG hs hkey hB hmb hk
  ·exact rput10_k3 k vk n ln s key h hG hs hkey hB hmb hk
  ·exact rput10_k4 k vk n ln s key h hG hs hkey hB hmb hk
  ·exact rput10_k5 k vk n ln s key h hG hs hkey hB hmb hk
  ·exact rput10_k6 k vk n ln s key h hG hs hkey hB hmb hk
end Go.Proofs.YthgbfaoblnkniaaDoor

namespace Go.Proofs.YthgbfaoblnkniaaDoor
open Go.RowKit Go.Lib Go.Maps
set_option maxRecDepth 100000 in
set_option maxHeartbeats 4000000 in
theorem rPut10_any {w : World} (v : Value) (L : List EventM) (hv : EvsS w v L) (hL : L.length ≤ 1000) (hM : ∀ x ∈ L, x.2.1.length ≤ 1000000 ∧ x.2.2.1.length ≤ 1000000) :
  Calls Tryd.prog 19 #[v] w fun e w' => ∃ gm vT vN vK vL vO E, e = .returned (.tuple #[.pointer (some ⟨gm, 0, none⟩), .int .i64 (madeP L []).2.1, .int .i64 (madeP L []).2.2]) ∧ WI w' w.heap.size gm (madeP L []).1 vT vN vK vL vO E ∧ Below w.heap.size w w' := by
 obtain ⟨p, c, rfl, hp⟩ := hv
 have HX := Lib.hid hp
 have HM := Lib.hid (fun k (hk : k < L.length) => hM _ (show L.getD k noEv ∈ L by rw [show L.getD k noEv = L[k] by simp [hk]]; exact List.getElem_mem hk))
 have HN := Lib.hid (wi_new w (Nat.le_refl w.heap.size))
 have HB := Lib.hid ((Below.refl w.heap.size w).alloc (Nat.le_refl _) (.cells #[.slice none 0 0, .slice none 0 0, .slice none 0 0, .slice none 0 0, .slice none 0 0, .slice none 0 0, .slice none 0 0] 69))
 clear hp hM
 obtain ⟨B, hBe⟩ : ∃ B, w.heap.size = B := ⟨_, rfl⟩
 go_enter Tryd.func19, Tryd.ntmps19
 go_wp2_with fail
 rw [hBe] at HN HB
 try simp only [hBe]
 generalize w.alloc (.cells #[.slice none 0 0, .slice none 0 0, .slice none 0 0, .slice none 0 0, .slice none 0 0, .slice none 0 0, .slice none 0 0] 69) = W at *
 go_loopw [6] (fun i wr => ∃ (k : Nat) (vT vN vK vL vO : Value) (E : List EntR) (Lk : List DraftM), k ≤ L.length ∧ i = .int .i64 k ∧ WI wr B B Lk vT vN vK vL vO E ∧ GoodL Lk ∧ madeP L [] = madeP (L.drop k) Lk ∧ Below B w wr) (fun i _ => L.length - (RowKit.intOf i).toNat)
 case atStart => exact ⟨0, _, _, _, _, _, _, _, Nat.zero_le _, rfl, HN.out, good_nil, rfl, HB.out⟩
 case round =>
  obtain ⟨k, vT, vN, vK, vL, vO, E, Lk, hk, rfl, hwi, hG, hP, hbw⟩ := hrel
  have hbz' := hbw.size
  by_cases hk1 : k < L.length
  ·obtain ⟨g, rfl, hcell⟩ := HX.out k hk1
   obtain ⟨q1, q2⟩ := HM.out k hk1
   rw [made_step L k hk1] at hP
   obtain ⟨t, ht⟩ : ∃ t, L.getD k noEv = t := ⟨_, rfl⟩
   rw [ht] at hP hcell q1 q2
   obtain ⟨x1, x2, x3, x4, x5, x6⟩ := t
   have hbw' : Below w.heap.size w wr := by rw [hBe]; exact hbw
   have a0 := cell_later hbw' (hcell 0 _ rfl)
   have a1 := cell_later hbw' (hcell 1 _ rfl)
   have a2 := cell_later hbw' (hcell 2 _ rfl)
   have a3 := cell_later hbw' (hcell 3 _ rfl)
   have a4 := cell_later hbw' (hcell 4 _ rfl)
   have a5 := cell_later hbw' (hcell 5 _ rfl)
   have HC5 := Lib.hid (hcell 5 _ rfl)
   simp only [Nat.add_zero] at a0
   obtain ⟨⟨L', f⟩, hp⟩ : ∃ r, putP Lk (x1, x2, x3, x4, x5, x6) = r := ⟨_, rfl⟩
   have hG' := put_good hG (x1, x2, x3, x4, x5, x6)
   rw [hp] at hP hG'
   dsimp only at hP hG' q1 q2
   have HPut := Lib.hid (rput10_any x1 x4 x5 x6 x2 x3 hwi hG q1 q2 (by omega))
   rw [hp] at HPut
   clear ht hp hcell q1 q2 hbw' hG hwi
   go_wp2_with fail
   refine HPut.out.mono ?_
   rintro e w3 ⟨vT', vN', vK', vL', vO', E', rfl, hwi', hb3⟩
   have hb03 := hbw.trans hb3
   clear HPut hb3 a0 a1 a2 a3 a4 a5
   dsimp only at hwi' ⊢
   by_cases hf : f = 0
   ·subst hf
    rw [if_pos rfl] at hP
    go_wp2_with fail
    go_roundw
    case rel => exact ⟨k + 1, vT', vN', vK', vL', vO', E', L', by omega, by go_num, hwi', hG', hP, hb03⟩
    case measure => simp [RowKit.intOf]; omega
   ·have hfb : (f != 0) = true := by simpa using hf
    rw [if_neg hf] at hP
    have HP := Lib.hid hP
    have hx5 : w3.cell? ⟨g, k * 6 + 5, none⟩ = some (.int .i64 x6) := cell_later (by rw [hBe]; exact hb03) HC5.out
    clear hP hf
    go_wp2_with fail
    have HS : RowKit.Hid (∀ w', Below w3.heap.size w3 w' → (w'.cell? ⟨g, k * 6 + 5, none⟩ = some (.int .i64 x6) ∧ Below w3.heap.size w3 w')) := Lib.hid (fun w' hb => ⟨cell_later hb hx5, hb⟩)
    refine wp_region_keep (fun w' => w'.cell? ⟨g, k * 6 + 5, none⟩ = some (.int .i64 x6) ∧ Below w3.heap.size w3 w') [] (by kernel_rfl) ?_
    have hB0 : Below (w3).heap.size (w3) (w3).drew := Below.drew (Below.refl _ _)
    have hS0 := HS.out _ hB0
    refine wpAnyM_free 0 (v := ?_) rfl (by kernel_rfl) (by kernel_rfl) (by kernel_rfl) (fun _ _ _ h => h) (Or.inl ⟨by rfl, ?_⟩) ?_
    rotate_left
    ·intro w' hw';go_simp;try with_reducible rfl
    try simp only [Act.put, sq0, sq1, sq2]
    refine wpAnyM_free 1 (v := ?_) rfl (by kernel_rfl) (by kernel_rfl) (by kernel_rfl) (fun _ _ _ h => h) (Or.inl ⟨by rfl, ?_⟩) ?_
    rotate_left
    ·intro w' hw';go_simp;try with_reducible rfl
    try simp only [Act.put, sq0, sq1, sq2]
    refine wpAnyM_free 2 (v := ?_) rfl (by kernel_rfl) (by kernel_rfl) (by kernel_rfl) (fun _ _ _ h => h) (Or.inl ⟨by rfl, ?_⟩) ?_
    rotate_left
    ·intro w' hw';go_simp;try with_reducible rfl
    try simp only [Act.put, sq0, sq1, sq2]
    refine wpAnyM_free 3 (v := ?_) rfl (by kernel_rfl) (by kernel_rfl) (by kernel_rfl) (fun _ _ _ h => h) (Or.inl ⟨by rfl, ?_⟩) ?_
    rotate_left
    ·intro w' hw';go_simp;try with_reducible rfl
    try simp only [Act.put, sq0, sq1, sq2]
    refine wpAnyM_free 4 (v := ?_) rfl (by kernel_rfl) (by kernel_rfl) (by kernel_rfl) (fun _ _ _ h => h) (Or.inl ⟨by rfl, ?_⟩) ?_
    rotate_left
    ·intro w' hw';go_simp;try with_reducible rfl
    try simp only [Act.put, sq0, sq1, sq2]
    refine wpAnyM_take 5 10 (v := ?_) rfl (by kernel_rfl) (by kernel_rfl) (by kernel_rfl) (by kernel_rfl) (by kernel_rfl) (fun _ _ _ h => h) (Or.inl ⟨by rfl, ?_⟩) hS0 ?_
    rotate_left
    ·intro w' hw';(try dsimp only at hw');go_simp;try with_reducible rfl
    try simp only [Act.put, sq0, sq1, sq2]
    refine wpAnyM_free 6 (v := ?_) rfl (by kernel_rfl) (by kernel_rfl) (by kernel_rfl) (fun _ _ _ h => h) (Or.inl ⟨by rfl, ?_⟩) ?_
    rotate_left
    ·intro w' hw';go_simp;try with_reducible rfl
    try simp only [Act.put, sq0, sq1, sq2]
    refine wpAnyM_one 7 rfl (by kernel_rfl) (fun K hK => ?_)
    go_simp
    refine hK.out _ _ (fun _ h => h) ?_
    clear hK K
    try simp only [Act.put, sq0, sq1, sq2]
    refine wpAnyM_one 8 rfl (by kernel_rfl) (fun K hK => ?_)
    go_simp
    refine hK.out _ _ (fun _ h => h) ?_
    clear hK K
    try simp only [Act.put, sq0, sq1, sq2]
    refine wpAnyM_one 9 rfl (by kernel_rfl) (fun K hK => ?_)
    go_simp
    refine hK.out _ _ (fun _ h => h) ?_
    clear hK K
    try simp only [Act.put, sq0, sq1, sq2]
    refine wpAnyM_done (by kernel_rfl) ?_ _
    try simp only [Act.put, sq0, sq1, sq2]
    go_wp2_with fail
    go_ret3
    rw [HP.out]
    rw [hBe]
    exact ⟨B, vT', vN', vK', vL', vO', E', rfl, hwi'.below hB0, hb03.trans (hB0.mono (by have := hb03.size; omega))⟩
  ·have hke : k = L.length := by omega
   subst hke
   rw [List.drop_length] at hP
   have HP := Lib.hid (show madeP L [] = (Lk, 0, 0) from hP)
   clear hP
   go_wp2_with fail
   go_ret3
   rw [HP.out]
   rw [hBe]
   exact ⟨B, vT, vN, vK, vL, vO, E, rfl, hwi, hbw⟩
end Go.Proofs.YthgbfaoblnkniaaDoor

namespace Go.Proofs.YthgbfaoblnkniaaDoor
open Go.RowKit Go.Lib
theorem good_len' (L : List (List UInt8)) (k : Nat) (hs : ∀ x ∈ L, x.length ≤ 1000000) : (L.getD k []).length ≤ 1000000 := by
 by_cases h : k < L.length
 ·exact hs _ (getD_mem L k h)
 ·rw [List.getD_eq_getElem?_getD, List.getElem?_eq_none (by omega)]
  simp
set_option maxRecDepth 100000 in
set_option maxHeartbeats 2000000 in
theorem rtis_any (w : World) (v : Value) (L : List (List UInt8)) (hv : Texts w v L) (hL : L.length ≤ 1000000) (hs : ∀ x ∈ L, x.length ≤ 1000000) :
  Calls Tryd.prog 32 #[v] w fun e w' => e = .returned (.bool (isT L)) ∧ Below w.heap.size w w' := by
 obtain ⟨p, c, rfl, hp⟩ := hv
 have HX := Lib.hid hp
 have HS := Lib.hid hs
 have HA := Lib.hid (isT_no L)
 have HZ := Lib.hid (isT_yes L)
 obtain ⟨R, hR⟩ : ∃ R, isT L = R := ⟨_, rfl⟩
 rw [hR] at HA HZ ⊢
 clear hp hs hR
 go_enter Tryd.func32, Tryd.ntmps32
 go_wp2_with fail
 go_loopw [3] (fun i wr => ∃ k : Nat, k ≤ L.length ∧ i = .int .i64 k ∧ (∀ j, j < k → goodT L j = true) ∧ Below w.heap.size w wr) (fun i _ => L.length - (RowKit.intOf i).toNat)
 case atStart => exact ⟨0, Nat.zero_le _, rfl, fun j hj => absurd hj (Nat.not_lt_zero j), Below.refl _ _⟩
 case round =>
  obtain ⟨k, hk, rfl, hn, hbw⟩ := hrel
  have HN := Lib.hid hn
  clear hn
  by_cases hlt : k < L.length
  ·have hstep : goodT L k = true → ∀ j, j < k + 1 → goodT L j = true := fun hg j hj => by
    by_cases hjk : j < k
    ·exact HN.out j hjk
    ·obtain rfl : j = k := by omega
     exact hg
   have HStep := Lib.hid hstep
   have HNo := Lib.hid (HA.out k hlt)
   clear hstep
   cases k with
   | zero =>
    obtain ⟨g, rfl, hc⟩ := HX.out 0 hlt
    have HI := Lib.hid (ris_any (L.getD 0 []) (good_len' L 0 HS.out))
    have hg0 := good_first L
    obtain ⟨x, hx⟩ : ∃ x, L.getD 0 [] = x := ⟨_, rfl⟩
    rw [hx] at hc HI hg0
    have c3 : decide ((0 : Int) < 0) = false := by decide
    clear hx
    cases hnx : nameL x with
    | false =>
     rw [hnx] at HI hg0
     have H1 := Lib.hid (HNo.out hg0)
     clear hnx hg0
     go_wp2_with fail
     have hq0 : ∀ m : Later wr, m.w.cell? ⟨g, 0, none⟩ = some (.string (bs x)) := fun m => cell_later m.h (cell_later hbw hc)
     refine wp_region_later (by kernel_rfl) (by kernel_rfl) ?_
     repeat (go_big_quiet_step (first | (go_at_call 30; exact Later.call (HI.out _))))
     refine wpQuiet_nil ?_
     intro _ hw'
     obtain ⟨⟨w3, hb3⟩, hw''⟩ := hw'
     have hw3 : w3 = _ := hw''.symm
     subst hw3
     try dsimp only at hb3
     go_wp2_with fail
     go_ret
     exact ⟨by rw [H1.out]; rfl, below_next hbw hb3⟩
    | true =>
     rw [hnx] at HI hg0
     have H1 := Lib.hid (HStep.out hg0)
     have hwr : IntKind.i64.wrap 1 = 1 := by decide
     clear hnx hg0
     go_wp2_with fail
     have hq0 : ∀ m : Later wr, m.w.cell? ⟨g, 0, none⟩ = some (.string (bs x)) := fun m => cell_later m.h (cell_later hbw hc)
     refine wp_region_later (by kernel_rfl) (by kernel_rfl) ?_
     repeat (go_big_quiet_step (first | (go_at_call 30; exact Later.call (HI.out _))))
     refine wpQuiet_nil ?_
     intro _ hw'
     obtain ⟨⟨w3, hb3⟩, hw''⟩ := hw'
     have hw3 : w3 = _ := hw''.symm
     subst hw3
     try dsimp only at hb3
     go_wp2_with fail
     go_roundw
     case rel => exact ⟨1, by omega, rfl, H1.out, below_next hbw hb3⟩
     case measure => simp [RowKit.intOf]; omega
   | succ q =>
    obtain ⟨g, rfl, hc⟩ := HX.out (q + 1) hlt
    obtain ⟨g', hg', hd⟩ := HX.out q (by omega)
    obtain rfl : g = g' := by simpa using hg'
    have HI := Lib.hid (ris_any (L.getD (q + 1) []) (good_len' L (q + 1) HS.out))
    have HL := Lib.hid (rless_any (L.getD q []) (L.getD (q + 1) []) (good_len' L q HS.out) (good_len' L (q + 1) HS.out))
    have hg0 := good_next L q
    have hlt0 : ltN (L.getD q []) (L.getD (q + 1) []) = lexLess (runesU (L.getD q [])) (runesU (L.getD (q + 1) [])) := rfl
    obtain ⟨x, hx⟩ : ∃ x, L.getD (q + 1) [] = x := ⟨_, rfl⟩
    obtain ⟨y, hy⟩ : ∃ y, L.getD q [] = y := ⟨_, rfl⟩
    rw [hx] at hc HI HL hg0 hlt0
    rw [hy] at hd HL hg0 hlt0
    rw [← hlt0] at HL
    have c3 : decide ((0 : Int) < (q : Int) + 1) = true := decide_eq_true (by omega)
    clear hx hy hlt0 hg'
    cases hnx : nameL x with
    | false =>
     rw [hnx] at HI hg0
     have H1 := Lib.hid (HNo.out hg0)
     clear hnx hg0
     go_wp2_with fail
     have hq0 : ∀ m : Later wr, m.w.cell? ⟨g, q + 1, none⟩ = some (.string (bs x)) := fun m => cell_later m.h (cell_later hbw hc)
     have hq1 : ∀ m : Later wr, m.w.cell? ⟨g, q, none⟩ = some (.string (bs y)) := fun m => cell_later m.h (cell_later hbw hd)
     refine wp_region_later (by kernel_rfl) (by kernel_rfl) ?_
     repeat (go_big_quiet_step (first | (go_at_call 30; exact Later.call (HI.out _))))
     refine wpQuiet_nil ?_
     intro _ hw'
     obtain ⟨⟨w3, hb3⟩, hw''⟩ := hw'
     have hw3 : w3 = _ := hw''.symm
     subst hw3
     try dsimp only at hb3
     go_wp2_with fail
     go_ret
     exact ⟨by rw [H1.out]; rfl, below_next hbw hb3⟩
    | true =>
     rw [hnx, Bool.true_and] at hg0
     rw [hnx] at HI
     cases hl : ltN y x with
     | false =>
      rw [hl] at HL hg0
      have H1 := Lib.hid (HNo.out hg0)
      clear hnx hg0 hl
      go_wp2_with fail
      have hq0 : ∀ m : Later wr, m.w.cell? ⟨g, q + 1, none⟩ = some (.string (bs x)) := fun m => cell_later m.h (cell_later hbw hc)
      have hq1 : ∀ m : Later wr, m.w.cell? ⟨g, q, none⟩ = some (.string (bs y)) := fun m => cell_later m.h (cell_later hbw hd)
      refine wp_region_later (by kernel_rfl) (by kernel_rfl) ?_
      repeat (go_big_quiet_step (first | (go_at_call 30; exact Later.call (HI.out _)) | (go_at_call 31; exact Later.call (HL.out _))))
      refine wpQuiet_nil ?_
      intro _ hw'
      obtain ⟨⟨w3, hb3⟩, hw''⟩ := hw'
      have hw3 : w3 = _ := hw''.symm
      subst hw3
      try dsimp only at hb3
      go_wp2_with fail
      go_ret
      exact ⟨by rw [H1.out]; rfl, below_next hbw hb3⟩
     | true =>
      rw [hl] at HL hg0
      have H1 := Lib.hid (HStep.out hg0)
      have hwr : IntKind.i64.wrap ((q : Int) + 1 + 1) = (q : Int) + 1 + 1 := IntWalk.i64_in _ (by omega)
      clear hnx hg0 hl
      go_wp2_with fail
      have hq0 : ∀ m : Later wr, m.w.cell? ⟨g, q + 1, none⟩ = some (.string (bs x)) := fun m => cell_later m.h (cell_later hbw hc)
      have hq1 : ∀ m : Later wr, m.w.cell? ⟨g, q, none⟩ = some (.string (bs y)) := fun m => cell_later m.h (cell_later hbw hd)
      refine wp_region_later (by kernel_rfl) (by kernel_rfl) ?_
      repeat (go_big_quiet_step (first | (go_at_call 30; exact Later.call (HI.out _)) | (go_at_call 31; exact Later.call (HL.out _))))
      refine wpQuiet_nil ?_
      intro _ hw'
      obtain ⟨⟨w3, hb3⟩, hw''⟩ := hw'
      have hw3 : w3 = _ := hw''.symm
      subst hw3
      try dsimp only at hb3
      go_wp2_with fail
      go_roundw
      case rel => exact ⟨q + 1 + 1, by omega, by go_num, H1.out, below_next hbw hb3⟩
      case measure => simp [RowKit.intOf]; omega
  ·have hke : k = L.length := by omega
   subst hke
   have H1 := Lib.hid (HZ.out HN.out)
   go_wp2_with fail
   go_ret
   exact ⟨by rw [H1.out]; rfl, hbw⟩
end Go.Proofs.YthgbfaoblnkniaaDoor

namespace Go.Proofs.YthgbfaoblnkniaaDoor
open Go.RowKit Go.Lib
set_option maxRecDepth 100000 in
set_option maxHeartbeats 1000000 in
theorem rfind_any (w : World) (v : Value) (L : List (List UInt8)) (s : List UInt8) (hv : Texts w v L) (hL : L.length ≤ 1000000) (hs : ∀ x ∈ L, x.length ≤ 1000000) :
  Calls Tryd.prog 22 #[v, .string (bs s)] w fun e w' => e = .returned (.tuple #[.int .i64 ((findT L s).1 : Nat), .bool (findT L s).2]) ∧ Below w.heap.size w w' := by
 have HV := Lib.hid hv
 have HI := Lib.hid (fun w' (h : Texts w' v L) => rtis_any w' v L h hL hs)
 obtain ⟨p, c, rfl, hp⟩ := hv
 have HX := Lib.hid hp
 have HA : RowKit.Hid (isT L = true → ∀ k, k < L.length → L.getD k [] = s → (∀ j, j < k → L.getD j [] ≠ s) → findT L s = (k, true)) := Lib.hid (fun ht k hk he hn => by
  obtain ⟨h1, h2⟩ := idx_at L s k hk he hn
  rw [findT, if_pos ⟨ht, h2⟩, h1])
 have HZ : RowKit.Hid ((isT L = false ∨ ∀ j, j < L.length → L.getD j [] ≠ s) → findT L s = (0, false)) := Lib.hid (fun h => by
  rw [findT, if_neg]
  rintro ⟨h1, h2⟩
  rcases h with h | h
  ·rw [h] at h1; cases h1
  ·exact idx_none L s h h2)
 obtain ⟨R, hR⟩ : ∃ R, findT L s = R := ⟨_, rfl⟩
 rw [hR] at HA HZ ⊢
 obtain ⟨b, hb⟩ : ∃ b, isT L = b := ⟨_, rfl⟩
 rw [hb] at HI HA HZ
 clear hp hs hR hb
 go_enter Tryd.func22, Tryd.ntmps22
 go_wp2_with fail
 go_loopw [6] (fun i wr => ∃ k : Nat, k ≤ L.length ∧ i = .int .i64 k ∧ (∀ j, j < k → L.getD j [] ≠ s) ∧ Below w.heap.size w wr) (fun i _ => L.length - (RowKit.intOf i).toNat)
 case atStart => exact ⟨0, Nat.zero_le _, rfl, fun j hj => absurd hj (Nat.not_lt_zero j), Below.refl _ _⟩
 case round =>
  obtain ⟨k, hk, rfl, hn, hbw⟩ := hrel
  have HN := Lib.hid hn
  clear hn
  by_cases hlt : k < L.length
  ·obtain ⟨g, rfl, hc⟩ := HX.out k hlt
   have HV1 := Lib.hid (HV.out.below hbw)
   cases b with
   | false =>
    have H1 := Lib.hid (HZ.out (.inl rfl))
    clear hc
    go_wp2_with fail
    refine (HI.out _ HV1.out).mono ?_
    rintro e w1 ⟨rfl, hb1⟩
    go_wp2_with fail
    go_ret2
    exact ⟨by rw [H1.out]; rfl, below_next hbw hb1⟩
   | true =>
    by_cases he : L.getD k [] = s
    ·have H1 := Lib.hid (HA.out rfl k hlt he HN.out)
     rw [he] at hc
     clear he
     go_wp2_with fail
     refine (HI.out _ HV1.out).mono ?_
     rintro e w1 ⟨rfl, hb1⟩
     have hbw1 := below_next hbw hb1
     have hc1 := cell_later hbw1 hc
     clear hb1 hbw HV1
     go_wp2_with fail
     go_ret2
     exact ⟨by rw [H1.out]; rfl, hbw1⟩
    ·have he0 : L.getD k [] ≠ s := he
     have H1 : RowKit.Hid (∀ j, j < k + 1 → L.getD j [] ≠ s) := Lib.hid (by
      intro j hj
      by_cases hjk : j < k
      ·exact HN.out j hjk
      ·obtain rfl : j = k := by omega
       exact he0)
     obtain ⟨x, hx⟩ : ∃ x, L.getD k [] = x := ⟨_, rfl⟩
     rw [hx] at hc he
     have e1 : (x == s) = false := beq_eq_false_iff_ne.2 he
     clear he0 he hx
     go_wp2_with fail
     refine (HI.out _ HV1.out).mono ?_
     rintro e w1 ⟨rfl, hb1⟩
     have hbw1 := below_next hbw hb1
     have hc1 := cell_later hbw1 hc
     clear hb1 hbw HV1
     go_wp2_with fail
     go_roundw
     case rel => exact ⟨k + 1, by omega, by go_num, H1.out, hbw1⟩
     case measure => simp [RowKit.intOf]; omega
  ·have hke : k = L.length := by omega
   subst hke
   have H1 := Lib.hid (HZ.out (.inr HN.out))
   go_wp2_with fail
   go_ret2
   exact ⟨by rw [H1.out]; rfl, hbw⟩
end Go.Proofs.YthgbfaoblnkniaaDoor
