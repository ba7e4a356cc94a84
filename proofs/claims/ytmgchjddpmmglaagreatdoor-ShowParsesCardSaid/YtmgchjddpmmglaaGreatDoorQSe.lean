/-
  Layer 10 (pair), the document's answer: put, walked. No conditions.
  Layer 10 (pair), the document's answer: Put, walked. Conditions: names of at most 1,000,000 bytes.
  The walks of layer 9's reference (table): a name found, a name put in, names' numbers. No conditions.
-/
import Derived.Test.YtmgchjddpmmglaaGreatDoorQxPbP1
import Derived.Test.YtmgchjddpmmglaaGreatDoorQxPbP2
import Derived.Test.YtmgchjddpmmglaaGreatDoorQxPbP3
import Derived.Test.YtmgchjddpmmglaaGreatDoorQxPbP4
import Derived.Test.YtmgchjddpmmglaaGreatDoorQAm
namespace Go.Proofs.YtmgchjddpmmglaaGreatDoor
section
open Go.RowKit Go.Lib Go.Maps
theorem rput10_any {w : World} {B gm : Nat} {L : List DraftM} {vT vN vK vL vO : Value} {E : List EntR} (k vk n ln : Int) (s key : List UInt8) (h : WI w B gm L vT vN vK vL vO E) (hG : GoodL L) (hs : s.length ≤ 1000000) (hkey : key.length ≤ 1000000) (hB : B ≤ w.heap.size) :
  Calls Tryz.prog 167 #[.pointer (some ⟨gm, 0, none⟩), .agg #[.int .i64 k, .string (bs s), .string (bs key), .int .i64 vk, .int .i64 n, .int .i64 ln]] w fun e w' => ∃ vT' vN' vK' vL' vO' E', e = .returned (.int .i64 (putP L (k, s, key, vk, n, ln)).2) ∧ WI w' B gm (putP L (k, s, key, vk, n, ln)).1 vT' vN' vK' vL' vO' E' ∧ Below B w w' := by
 cases hmb : mayE (k, s, key, vk, n, ln) with
 | false => exact rput10_no k vk n ln s key h hG hs hkey hB hmb
 | true =>
  obtain ⟨-, h1, h6, -⟩ := mayE_nm _ hmb
  have hk : k = 1 ∨ k = 2 ∨ k = 3 ∨ k = 4 ∨ k = 5 ∨ k = 6 := by dsimp only at h1 h6; omega
  rcases hk with hk | hk | hk | hk | hk | hk
  ·exact rput10_k1 k vk n ln s key h hG hs hkey hB hmb hk
  ·exact rput10_k2 k vk n ln s key h hG hs hkey hB hmb hk
  ·exact rput10_k3 k vk n ln s key h hG hs hkey hB hmb hk
  ·exact rput10_k4 k vk n ln s key h hG hs hkey hB hmb hk
  ·exact rput10_k5 k vk n ln s key h hG hs hkey hB hmb hk
  ·exact rput10_k6 k vk n ln s key h hG hs hkey hB hmb hk
end
section
open Go.RowKit Go.Lib Go.Maps
set_option maxRecDepth 100000 in
set_option maxHeartbeats 4000000 in
theorem rPut10_any {w : World} (v : Value) (L : List EventM) (hv : EvsS w v L) (hL : L.length ≤ 1000) (hM : ∀ x ∈ L, x.2.1.length ≤ 1000000 ∧ x.2.2.1.length ≤ 1000000) :
  Calls Tryz.prog 123 #[v] w fun e w' => ∃ gm vT vN vK vL vO E, e = .returned (.tuple #[.pointer (some ⟨gm, 0, none⟩), .int .i64 (madeP L []).2.1, .int .i64 (madeP L []).2.2]) ∧ WI w' w.heap.size gm (madeP L []).1 vT vN vK vL vO E ∧ Below w.heap.size w w' := by
 obtain ⟨p, c, rfl, hp⟩ := hv
 have HX := Lib.hid hp
 have HM := Lib.hid (fun k (hk : k < L.length) => hM _ (show L.getD k noEv ∈ L by rw [show L.getD k noEv = L[k] by simp [hk]]; exact List.getElem_mem hk))
 have HN := Lib.hid (wi_new w (Nat.le_refl w.heap.size))
 have HB := Lib.hid ((Below.refl w.heap.size w).alloc (Nat.le_refl _) (.cells #[.slice none 0 0, .slice none 0 0, .slice none 0 0, .slice none 0 0, .slice none 0 0, .slice none 0 0, .slice none 0 0] 146))
 clear hp hM
 obtain ⟨B, hBe⟩ : ∃ B, w.heap.size = B := ⟨_, rfl⟩
 go_enter Tryz.func123, Tryz.ntmps123
 go_wp2_with fail
 rw [hBe] at HN HB
 try simp only [hBe]
 generalize w.alloc (.cells #[.slice none 0 0, .slice none 0 0, .slice none 0 0, .slice none 0 0, .slice none 0 0, .slice none 0 0, .slice none 0 0] 146) = W at *
 go_loopw [6] (fun i wr => ∃ (k : Nat) (vT vN vK vL vO : Value) (E : List EntR) (Lk : List DraftM), k ≤ L.length ∧ i = .int .i64 k ∧ WI wr B B Lk vT vN vK vL vO E ∧ GoodL Lk ∧ madeP L [] = madeP (L.drop k) Lk ∧ Below B w wr) (fun i _ => L.length - (RowKit.intOf i).toNat)
 case atStart => exact ⟨0, _, _, _, _, _, _, _, Nat.zero_le _, rfl, HN.out, good_nil, rfl, HB.out⟩
 case round =>
  obtain ⟨k, vT, vN, vK, vL, vO, E, Lk, hk, rfl, hwi, hG, hP, hbw⟩ := hrel
  have hbz' := hbw.size
  by_cases hk1 : k < L.length
  ·obtain ⟨g, rfl, hcell⟩ := HX.out k hk1
   obtain ⟨q1, q2⟩ := HM.out k hk1
   rw [made_step L k hk1] at hP
   obtain ⟨t, ht⟩ : ∃ t, L.getD k noEv = t := ⟨_, rfl⟩
   rw [ht] at hP hcell q1 q2
   obtain ⟨x1, x2, x3, x4, x5, x6⟩ := t
   have hbw' : Below w.heap.size w wr := by rw [hBe]; exact hbw
   have a0 := cell_later hbw' (hcell 0 _ rfl)
   have a1 := cell_later hbw' (hcell 1 _ rfl)
   have a2 := cell_later hbw' (hcell 2 _ rfl)
   have a3 := cell_later hbw' (hcell 3 _ rfl)
   have a4 := cell_later hbw' (hcell 4 _ rfl)
   have a5 := cell_later hbw' (hcell 5 _ rfl)
   have HC5 := Lib.hid (hcell 5 _ rfl)
   simp only [Nat.add_zero] at a0
   obtain ⟨⟨L', f⟩, hp⟩ : ∃ r, putP Lk (x1, x2, x3, x4, x5, x6) = r := ⟨_, rfl⟩
   have hG' := put_good hG (x1, x2, x3, x4, x5, x6)
   rw [hp] at hP hG'
   dsimp only at hP hG' q1 q2
   have HPut := Lib.hid (rput10_any x1 x4 x5 x6 x2 x3 hwi hG q1 q2 (by omega))
   rw [hp] at HPut
   clear ht hp hcell q1 q2 hbw' hG hwi
   go_wp2_with fail
   refine HPut.out.mono ?_
   rintro e w3 ⟨vT', vN', vK', vL', vO', E', rfl, hwi', hb3⟩
   have hb03 := hbw.trans hb3
   clear HPut hb3 a0 a1 a2 a3 a4 a5
   dsimp only at hwi' ⊢
   by_cases hf : f = 0
   ·subst hf
    rw [if_pos rfl] at hP
    go_wp2_with fail
    go_roundw
    case rel => exact ⟨k + 1, vT', vN', vK', vL', vO', E', L', by omega, by go_num, hwi', hG', hP, hb03⟩
    case measure => simp [RowKit.intOf]; omega
   ·have hfb : (f != 0) = true := by simpa using hf
    rw [if_neg hf] at hP
    have HP := Lib.hid hP
    have hx5 : w3.cell? ⟨g, k * 6 + 5, none⟩ = some (.int .i64 x6) := cell_later (by rw [hBe]; exact hb03) HC5.out
    clear hP hf
    go_wp2_with fail
    have HS : RowKit.Hid (∀ w', Below w3.heap.size w3 w' → (w'.cell? ⟨g, k * 6 + 5, none⟩ = some (.int .i64 x6) ∧ Below w3.heap.size w3 w')) := Lib.hid (fun w' hb => ⟨cell_later hb hx5, hb⟩)
    refine wp_region_keep (fun w' => w'.cell? ⟨g, k * 6 + 5, none⟩ = some (.int .i64 x6) ∧ Below w3.heap.size w3 w') [] (by kernel_rfl) ?_
    have hB0 : Below (w3).heap.size (w3) (w3).drew := Below.drew (Below.refl _ _)
    have hS0 := HS.out _ hB0
    refine wfr 0 (v := ?_) rfl ?_ ?_
    rotate_left
    ·intro w' hw';go_simp;try with_reducible rfl
    try simp only [Act.put, sq]
    refine wfr 1 (v := ?_) rfl ?_ ?_
    rotate_left
    ·intro w' hw';go_simp;try with_reducible rfl
    try simp only [Act.put, sq]
    refine wfr 2 (v := ?_) rfl ?_ ?_
    rotate_left
    ·intro w' hw';go_simp;try with_reducible rfl
    try simp only [Act.put, sq]
    refine wfr 3 (v := ?_) rfl ?_ ?_
    rotate_left
    ·intro w' hw';go_simp;try with_reducible rfl
    try simp only [Act.put, sq]
    refine wfr 4 (v := ?_) rfl ?_ ?_
    rotate_left
    ·intro w' hw';go_simp;try with_reducible rfl
    try simp only [Act.put, sq]
    refine wtk 5 10 (v := ?_) rfl ?_ hS0 ?_
    rotate_left
    ·intro w' hw';(try dsimp only at hw');go_simp;try with_reducible rfl
    try simp only [Act.put, sq]
    refine wfr 6 (v := ?_) rfl ?_ ?_
    rotate_left
    ·intro w' hw';go_simp;try with_reducible rfl
    try simp only [Act.put, sq]
    refine won 7 rfl fun K hK => ?_
    go_simp
    refine hK.out _ _ (fun _ h => h) ?_
    clear hK K
    try simp only [Act.put, sq]
    refine won 8 rfl fun K hK => ?_
    go_simp
    refine hK.out _ _ (fun _ h => h) ?_
    clear hK K
    try simp only [Act.put, sq]
    refine won 9 rfl fun K hK => ?_
    go_simp
    refine hK.out _ _ (fun _ h => h) ?_
    clear hK K
    try simp only [Act.put, sq]
    refine wpAnyM_done (by kernel_rfl) ?_ _
    try simp only [Act.put, sq]
    go_wp2_with fail
    go_ret3
    rw [HP.out]
    rw [hBe]
    exact ⟨B, vT', vN', vK', vL', vO', E', rfl, hwi'.below hB0, hb03.trans (hB0.mono (by have := hb03.size; omega))⟩
  ·have hke : k = L.length := by omega
   subst hke
   rw [List.drop_length] at hP
   have HP := Lib.hid (show madeP L [] = (Lk, 0, 0) from hP)
   clear hP
   go_wp2_with fail
   go_ret3
   rw [HP.out]
   rw [hBe]
   exact ⟨B, vT, vN, vK, vL, vO, E, rfl, hwi, hbw⟩
end
section
open Go.RowKit Go.Lib
set_option maxRecDepth 100000 in
set_option maxHeartbeats 1000000 in
theorem rfind_any (w : World) (v : Value) (L : List (List UInt8)) (s : List UInt8) (hv : Texts w v L) (hL : L.length ≤ 1000000) (hs : ∀ x ∈ L, x.length ≤ 1000000) :
  Calls Tryz.prog 126 #[v, .string (bs s)] w fun e w' => e = .returned (.tuple #[.int .i64 ((findT L s).1 : Nat), .bool (findT L s).2]) ∧ Below w.heap.size w w' := by
 have HV := Lib.hid hv
 have HI := Lib.hid (fun w' (h : Texts w' v L) => rtis_any w' v L h hL hs)
 obtain ⟨p, c, rfl, hp⟩ := hv
 have HX := Lib.hid hp
 have HA : RowKit.Hid (isT L = true → ∀ k, k < L.length → L.getD k [] = s → (∀ j, j < k → L.getD j [] ≠ s) → findT L s = (k, true)) := Lib.hid (fun ht k hk he hn => by
  obtain ⟨h1, h2⟩ := idx_at L s k hk he hn
  rw [findT, if_pos ⟨ht, h2⟩, h1])
 have HZ : RowKit.Hid ((isT L = false ∨ ∀ j, j < L.length → L.getD j [] ≠ s) → findT L s = (0, false)) := Lib.hid (fun h => by
  rw [findT, if_neg]
  rintro ⟨h1, h2⟩
  rcases h with h | h
  ·rw [h] at h1; cases h1
  ·exact idx_none L s h h2)
 obtain ⟨R, hR⟩ : ∃ R, findT L s = R := ⟨_, rfl⟩
 rw [hR] at HA HZ ⊢
 obtain ⟨b, hb⟩ : ∃ b, isT L = b := ⟨_, rfl⟩
 rw [hb] at HI HA HZ
 clear hp hs hR hb
 go_enter Tryz.func126, Tryz.ntmps126
 go_wp2_with fail
 go_loopw [6] (fun i wr => ∃ k : Nat, k ≤ L.length ∧ i = .int .i64 k ∧ (∀ j, j < k → L.getD j [] ≠ s) ∧ Below w.heap.size w wr) (fun i _ => L.length - (RowKit.intOf i).toNat)
 case atStart => exact ⟨0, Nat.zero_le _, rfl, fun j hj => absurd hj (Nat.not_lt_zero j), Below.refl _ _⟩
 case round =>
  obtain ⟨k, hk, rfl, hn, hbw⟩ := hrel
  have HN := Lib.hid hn
  clear hn
  by_cases hlt : k < L.length
  ·obtain ⟨g, rfl, hc⟩ := HX.out k hlt
   have HV1 := Lib.hid (HV.out.below hbw)
   cases b with
   | false =>
    have H1 := Lib.hid (HZ.out (.inl rfl))
    clear hc
    go_wp2_with fail
    refine (HI.out _ HV1.out).mono ?_
    rintro e w1 ⟨rfl, hb1⟩
    go_wp2_with fail
    go_ret2
    exact ⟨by rw [H1.out]; rfl, below_next hbw hb1⟩
   | true =>
    by_cases he : L.getD k [] = s
    ·have H1 := Lib.hid (HA.out rfl k hlt he HN.out)
     rw [he] at hc
     clear he
     go_wp2_with fail
     refine (HI.out _ HV1.out).mono ?_
     rintro e w1 ⟨rfl, hb1⟩
     have hbw1 := below_next hbw hb1
     have hc1 := cell_later hbw1 hc
     clear hb1 hbw HV1
     go_wp2_with fail
     go_ret2
     exact ⟨by rw [H1.out]; rfl, hbw1⟩
    ·have he0 : L.getD k [] ≠ s := he
     have H1 : RowKit.Hid (∀ j, j < k + 1 → L.getD j [] ≠ s) := Lib.hid (by
      intro j hj
      by_cases hjk : j < k
      ·exact HN.out j hjk
      ·obtain rfl : j = k := by omega
       exact he0)
     obtain ⟨x, hx⟩ : ∃ x, L.getD k [] = x := ⟨_, rfl⟩
     rw [hx] at hc he
     have e1 : (x == s) = false := beq_eq_false_iff_ne.2 he
     clear he0 he hx
     go_wp2_with fail
     refine (HI.out _ HV1.out).mono ?_
     rintro e w1 ⟨rfl, hb1⟩
     have hbw1 := below_next hbw hb1
     have hc1 := cell_later hbw1 hc
     clear hb1 hbw HV1
     go_wp2_with fail
     go_roundw
     case rel => exact ⟨k + 1, by omega, by go_num, H1.out, hbw1⟩
     case measure => simp [RowKit.intOf]; omega
  ·have hke : k = L.length := by omega
   subst hke
   have H1 := Lib.hid (HZ.out (.inr HN.out))
   go_wp2_with fail
   go_ret2
   exact ⟨by rw [H1.out]; rfl, hbw⟩
end
end Go.Proofs.YtmgchjddpmmglaaGreatDoor
