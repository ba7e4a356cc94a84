/-
  Layer 10 (pair), the document's answer: History, walked. Conditions: names of at most 1,000,000 bytes.
-/
import Derived.Test.YtmgchjddpmmglaaGreatDoorQSd
import Derived.Test.YtmgchjddpmmglaaGreatDoorQSe
namespace Go.Proofs.YtmgchjddpmmglaaGreatDoor
open Go.RowKit Go.Lib Go.Maps
theorem doneQ_self (L : List DraftM) (i j : Nat) : doneQ L i j i = j := by unfold doneQ; simp
theorem ret_hR {w : World} {b : Nat} {v0 v1 v2 : Value} (tmps : Array Value) (v3 v4 : Value) (h : Blk w b 25 [v0, v1, v2]) (h2 : tmps.getD 2 undef = .pointer (some ⟨b, 0, none⟩)) (h3 : tmps.getD 3 undef = v3) (h4 : tmps.getD 4 undef = v4) :
  (results Tryz.f72 tmps).run Tryz.prog w = .ok (.tuple #[.agg #[v0, v1, v2], v3, v4]) w := by
 have hr : w.rangeAt b 0 [v0, v1, v2] := fun j v hj => by rw [Nat.zero_add]; exact h.cell j hj
 have hl := run_loadVar_mid (P := Tryz.prog) w b 0 25 [v0, v1, v2] _ hr Tryz.underlying25 rfl (by kernel_rfl)
 rw [← h3, ← h4]
 exact results_cell3' Tryz.results72 tmps _ w _ _ h2 hl
set_option maxRecDepth 100000 in
set_option maxHeartbeats 8000000 in
theorem rhist10_any {w : World} (v : Value) (L : List EventM) (hv : EvsS w v L) (hL : L.length ≤ 1000) (hM : ∀ x ∈ L, x.2.1.length ≤ 1000000 ∧ x.2.2.1.length ≤ 1000000) :
  Calls Tryz.prog 72 #[v] w fun e w' => ∃ hv, e = .returned (.tuple #[hv, .int .i64 (histP L).2.1, .int .i64 (histP L).2.2]) ∧ HistV w' hv (histP L).1 ∧ Below w.heap.size w w' := by
 have hal := (Below.refl w.heap.size w).alloc (Nat.le_refl _) (.cells #[.slice none 0 0, .slice none 0 0, .slice none 0 0] 25)
 have HMd := Lib.hid (rPut10_any (w := w.alloc (.cells #[.slice none 0 0, .slice none 0 0, .slice none 0 0] 25)) v L (hv.below hal) hL hM)
 have HG := Lib.hid (made_good L [] good_nil)
 have HAL := Lib.hid hal
 have HR1 := Lib.hid (Blk.new w 25 [.slice none 0 0, .slice none 0 0, .slice none 0 0])
 have hs1 : (w.alloc (.cells #[.slice none 0 0, .slice none 0 0, .slice none 0 0] 25)).heap.size = w.heap.size + 1 := by simp
 obtain ⟨⟨Lm, n, er⟩, hr⟩ : ∃ r, madeP L [] = r := ⟨_, rfl⟩
 rw [hr] at HMd HG
 have HMP := Lib.hid hr
 clear hv hM hal hr
 go_enter Tryz.func72, Tryz.ntmps72
 go_wp2_with fail
 refine HMd.out.mono ?_
 rintro e wb ⟨gm, vT, vN, vK, vL, vO, E, rfl, hwi, hb2⟩
 clear HMd
 obtain ⟨wa, hwa⟩ : ∃ wa, w.alloc (.cells #[.slice none 0 0, .slice none 0 0, .slice none 0 0] 25) = wa := ⟨_, rfl⟩
 have HR1' : Blk wa w.heap.size 25 [.slice none 0 0, .slice none 0 0, .slice none 0 0] := by rw [← hwa]; exact HR1.out
 rw [hwa] at hwi hb2 HAL hs1
 clear HR1 hwa
 have HR2 := Lib.hid (HR1'.later hb2)
 have HRA := Lib.hid HR1'
 clear HR1'
 obtain ⟨gr, hgr⟩ : ∃ g, w.heap.size = g := ⟨_, rfl⟩
 rw [hgr] at HR2 HAL hs1 HRA
 try simp only [hgr]
 try dsimp only at hwi HG
 by_cases her : er = 0
 ·subst her
  have hG : GoodL Lm := HG.out
  have hLf := hG.few
  obtain ⟨pO, cO, rfl⟩ := owns_form hwi.rO
  obtain ⟨pL, cL, rfl⟩ := owns_form hwi.rL
  have b6 := hwi.bx.cell 6 rfl
  have b5 := hwi.bx.cell 5 rfl
  have HWI := Lib.hid hwi
  clear hwi
  go_wp2_with fail
  go_loopw [8] (fun i wr => ∃ k : Nat, k ≤ Lm.length ∧ i = .int .i64 k ∧ (∀ j, j < k → (Lm.getD j noD).op = false) ∧ wb = wr) (fun i _ => Lm.length - (RowKit.intOf i).toNat)
  case atStart => exact ⟨0, Nat.zero_le _, rfl, fun j hj => absurd hj (Nat.not_lt_zero j), rfl⟩
  case round =>
   obtain ⟨k, hk, rfl, hno, rfl⟩ := hrel
   have HNo := Lib.hid hno
   clear hno
   by_cases hk1 : k < Lm.length
   ·obtain ⟨gO, c1, e1, a1, -⟩ := own_cell (f := opd) (s := 1) noD (fun _ => rfl) HWI.out.rO rfl k hk1
    obtain ⟨gL, c2, e2, a2, -⟩ := own_cell (f := lnd) (s := 1) noD (fun _ => rfl) HWI.out.rL rfl k hk1
    injection e1 with e1 _ e1'
    injection e2 with e2 _ e2'
    subst e1 e2 e1' e2'
    have bo := a1 0 _ rfl
    have bl := a2 0 _ rfl
    simp only [Nat.mul_one, Nat.add_zero] at bo bl
    have hgl := (HWI.out.rL.lt gL rfl).1
    have hgm := HWI.out.base
    have hne1 : gm ≠ gr := by omega
    have hne2 : gL ≠ gr := by omega
    obtain ⟨d, hLk⟩ : ∃ d, Lm.getD k noD = d := ⟨_, rfl⟩
    rw [hLk] at bo bl
    clear a1 a2
    cases ho : d.op with
    | false =>
     rw [ho] at bo
     go_wp2_with fail
     go_roundw
     case rel => exact ⟨k + 1, by omega, by go_num, fun j hj => by
      rcases Nat.lt_or_ge j k with h1 | h1
      ·exact HNo.out j h1
      ·have e : j = k := by omega
       rw [e, hLk]; exact ho, by first | rfl | trivial⟩
     case measure => simp [RowKit.intOf]; omega
    | true =>
     rw [ho] at bo
     have HE := Lib.hid (hist_end L HMP.out k hk1 (by rw [hLk]; exact ho) HNo.out)
     rw [hLk] at HE
     have HS : RowKit.Hid (∀ w', Below wb.heap.size wb w' → (w'.cell? ⟨gm, 5, none⟩ = some (.slice (some ⟨gL, 0, none⟩) Lm.length cL) ∧ w'.cell? ⟨gL, k, none⟩ = some (.int .i64 d.ln))) := Lib.hid (fun w' hb => ⟨cell_later hb b5, cell_later hb bl⟩)
     clear ho
     go_wp2_with fail
     refine wp_region_keep (fun w' => w'.cell? ⟨gm, 5, none⟩ = some (.slice (some ⟨gL, 0, none⟩) Lm.length cL) ∧ w'.cell? ⟨gL, k, none⟩ = some (.int .i64 d.ln)) [] (by kernel_rfl) ?_
     have hB0 : Below (wb).heap.size (wb) (wb).drew := Below.drew (Below.refl _ _)
     have hS0 := HS.out _ hB0
     refine wfr 0 (v := ?_) rfl ?_ ?_
     rotate_left
     ·intro w' hw';go_simp;try with_reducible rfl
     try simp only [Act.put, sq]
     refine wfr 1 (v := ?_) rfl ?_ ?_
     rotate_left
     ·intro w' hw';go_simp;try with_reducible rfl
     try simp only [Act.put, sq]
     refine wfr 2 (v := ?_) rfl ?_ ?_
     rotate_left
     ·intro w' hw';go_simp;try with_reducible rfl
     try simp only [Act.put, sq]
     refine wfr 3 (v := ?_) rfl ?_ ?_
     rotate_left
     ·intro w' hw';go_simp;try with_reducible rfl
     try simp only [Act.put, sq]
     refine wtk 4 11 (v := ?_) rfl ?_ hS0 ?_
     rotate_left
     ·intro w' hw';(try dsimp only at hw');go_simp;try with_reducible rfl
     try simp only [Act.put, sq]
     refine wfr 5 (v := ?_) rfl ?_ ?_
     rotate_left
     ·intro w' hw';go_simp;try with_reducible rfl
     try simp only [Act.put, sq]
     refine wfr 6 (v := ?_) rfl ?_ ?_
     rotate_left
     ·intro w' hw';go_simp;try with_reducible rfl
     try simp only [Act.put, sq]
     refine wtk 7 11 (v := ?_) rfl ?_ hS0 ?_
     rotate_left
     ·intro w' hw';(try dsimp only at hw');go_simp;try with_reducible rfl
     try simp only [Act.put, sq]
     have HRg := Lib.hid (HR2.out.drew)
     have r0 := HR2.out.cell 0 rfl
     have r1 := HR2.out.cell 1 rfl
     have r2 := HR2.out.cell 2 rfl
     have f0 := HR2.out.frozen 0
     have f1 := HR2.out.frozen 1
     have f2 := HR2.out.frozen 2
     have hfar := (store3 HRg.out (.slice none 0 0) (.slice none 0 0) (.slice none 0 0)).2.1
     refine won 8 rfl fun K hK => ?_
     go_simp
     refine hK.out _ _ (fun _ _ => ⟨(World.cell?_of_block (a := ⟨gm, 5, none⟩) (hfar gm hne1)).trans b5, (World.cell?_of_block (a := ⟨gL, k, none⟩) (hfar gL hne2)).trans bl⟩) ?_
     clear hK K
     try simp only [Act.put, sq]
     refine won 9 rfl fun K hK => ?_
     go_simp
     refine hK.out _ _ (fun _ h => h) ?_
     clear hK K
     try simp only [Act.put, sq]
     refine won 10 rfl fun K hK => ?_
     go_simp
     refine hK.out _ _ (fun _ h => h) ?_
     clear hK K
     try simp only [Act.put, sq]
     refine wpAnyM_done (by kernel_rfl) ?_ _
     try simp only [Act.put, sq]
     have HRS := Lib.hid (((HRg.out.set 0 (.slice none 0 0)).set 1 (.slice none 0 0)).set 2 (.slice none 0 0))
     have hb9 : Below gr w wb := HAL.out.trans (hb2.mono (by omega))
     go_wp21
     rw [HE.out]
     refine bodyPost_ret (ret_hR (w := _) _ _ _ HRS.out rfl rfl rfl) rfl ⟨_, rfl, histV_no _, ?_⟩
     rw [hgr]
     have hb99 := ((hb9.drew.setCell (p := ⟨gr, 0, none⟩) (Nat.le_refl _) (.slice none 0 0)).setCell (p := ⟨gr, 1, none⟩) (Nat.le_refl _) (.slice none 0 0)).setCell (p := ⟨gr, 2, none⟩) (Nat.le_refl _) (.slice none 0 0)
     exact hb99
   ·have hke : k = Lm.length := by omega
    subst hke
    have HE := Lib.hid (hist_ok L HMP.out HNo.out)
    clear b5 HNo
    obtain ⟨pN, cN, rfl⟩ := owns_form HWI.out.rN
    have hN : wb.ownsRow wa.heap.size 9 1 (.slice pN Lm.length cN) (namesD Lm).length (strs (namesD Lm)) := by
     rw [← nmd_strs, show (namesD Lm).length = Lm.length by simp [namesD]]
     exact HWI.out.rN
    have HN := Lib.hid (own_texts hN)
    have hnl : (namesD Lm).length ≤ 40 := by rw [show (namesD Lm).length = Lm.length by simp [namesD]]; exact hLf
    have hkf := keys_few Lm (fun x hx => by rw [(hG.all x hx).len]; exact (hG.all x hx).few)
    have b3 := HWI.out.bx.cell 3 rfl
    clear hN
    have HSn := Lib.hid (rsorted_new wb _ (namesD Lm) HN.out (by omega) (fun x hx => name_len x (names_good hG x hx)))
    have HKn := Lib.hid (fun w' v' (h : Texts w' v' (keysD Lm)) => rsorted_new w' v' (keysD Lm) h (by omega) (fun x hx => name_len x (keys_good hG x hx)))
    obtain ⟨S, hS⟩ : ∃ S, sortedN (namesD Lm) = S := ⟨_, rfl⟩
    obtain ⟨K, hK⟩ : ∃ K, sortedN (keysD Lm) = K := ⟨_, rfl⟩
    rw [hS] at HSn HE
    rw [hK] at HKn HE
    have HS' := Lib.hid hS
    have HK' := Lib.hid hK
    clear hS hK
    go_wp2_with fail
    refine HSn.out.mono ?_
    rintro e w2 ⟨sv, rfl, htS, hnS, hb22⟩
    clear HSn
    have HTS := Lib.hid htS
    obtain ⟨gS, cS, rfl, -, -⟩ := htS
    have HW2 := Lib.hid (HWI.out.below hb22)
    have HKy := Lib.hid (rkeys10_any HW2.out (by omega) (fun x hx => by rw [(hG.all x hx).len]; exact (hG.all x hx).few))
    go_wp2_with fail
    refine HKy.out.mono ?_
    rintro e w3 ⟨v3, rfl, hk3, hb33⟩
    clear HKy
    have HT3 := Lib.hid (own_texts hk3)
    obtain ⟨p3, c3, rfl⟩ := owns_form hk3
    clear hk3
    go_wp2_with fail
    refine (HKn.out w3 _ HT3.out).mono ?_
    rintro e w4 ⟨kv, rfl, htK, hnK, hb44⟩
    have HTK := Lib.hid htK
    obtain ⟨gK0, cK0, rfl, -, -⟩ := htK
    have HW4 := Lib.hid ((HW2.out.below hb33).below hb44)
    have m0 := HW4.out.bx.cell 0 rfl
    have m1 := HW4.out.bx.cell 1 rfl
    have mf0 := HW4.out.bx.frozen 0
    have mf1 := HW4.out.bx.frozen 1
    clear HKn HT3
    go_wp2_with fail
    have hgma := HWI.out.base
    have hgml := HWI.out.bx.lt
    have hz2 := hb22.size
    have hz3 := hb33.size
    have hz4 := hb44.size
    have h5far : ∀ q, q ≠ gm → ((w4.setCell ⟨gm, 0, none⟩ (.slice (some ⟨gS, 0, none⟩) S.length cS)).setCell ⟨gm, 1, none⟩ (.slice (some ⟨gK0, 0, none⟩) K.length cK0)).heap[q]? = w4.heap[q]? := fun q hq => by rw [Below.heap_setCell _ _ _ _ hq, Below.heap_setCell _ _ _ _ hq]
    have h5sz : ((w4.setCell ⟨gm, 0, none⟩ (.slice (some ⟨gS, 0, none⟩) S.length cS)).setCell ⟨gm, 1, none⟩ (.slice (some ⟨gK0, 0, none⟩) K.length cK0)).heap.size = w4.heap.size := by rw [set_size, set_size]
    have hb24 := hb33.trans (hb44.mono hz3)
    have hOS := textsOff (w := (w4.setCell ⟨gm, 0, none⟩ (.slice (some ⟨gS, 0, none⟩) S.length cS)).setCell ⟨gm, 1, none⟩ (.slice (some ⟨gK0, 0, none⟩) K.length cK0)) (gh := gm) (n0 := wb.heap.size) (nb := wb.heap.size) (textsS_texts HTS.out) hnS (.inl hgml) (Nat.le_refl _) (fun k hk hne => (h5far k hne).trans (hb24.block k hk)) (by rw [h5sz]; omega)
    have hOK := textsOff (w := (w4.setCell ⟨gm, 0, none⟩ (.slice (some ⟨gS, 0, none⟩) S.length cS)).setCell ⟨gm, 1, none⟩ (.slice (some ⟨gK0, 0, none⟩) K.length cK0)) (gh := gm) (n0 := wb.heap.size) (nb := w3.heap.size) (textsS_texts HTK.out) hnK (.inl (by omega)) (by omega) (fun k hk hne => h5far k hne) (by rw [h5sz]; exact Nat.le_refl _)
    have HJ := Lib.hid (HW4.out.heads (.slice (some ⟨gS, 0, none⟩) S.length cS) (.slice (some ⟨gK0, 0, none⟩) K.length cK0))
    have HLow := Lib.hid (low_ofR HWI.out)
    have hbB : Below wa.heap.size wa w4 := (hb2.trans ((hb22.trans (hb24.mono hz2)).mono hb2.size))
    have hb5 : Below wa.heap.size wa ((w4.setCell ⟨gm, 0, none⟩ (.slice (some ⟨gS, 0, none⟩) S.length cS)).setCell ⟨gm, 1, none⟩ (.slice (some ⟨gK0, 0, none⟩) K.length cK0)) := (hbB.setCell hgma _).setCell hgma _
    have HOS := Lib.hid hOS
    have HOK := Lib.hid hOK
    have HB5 := Lib.hid hb5
    clear m0 m1 mf0 mf1 b3 h5far h5sz hb24 hOS hOK hbB hb5 hb22 hb33 hb44 HW4 HW2 HTS HTK hnS hnK hz2 hz3 hz4 HN
    generalize (w4.setCell ⟨gm, 0, none⟩ (.slice (some ⟨gS, 0, none⟩) S.length cS)).setCell ⟨gm, 1, none⟩ (.slice (some ⟨gK0, 0, none⟩) K.length cK0) = w5 at *
    have HSl : RowKit.Hid (S.length ≤ 1000000 ∧ ∀ x ∈ S, x.length ≤ 1000000) := Lib.hid ⟨by rw [← HS'.out]; have := hG.names; omega, fun x hx => name_len x (((sortedN_spec (namesD Lm)).2 x).1 (by rw [HS'.out]; exact hx)).2⟩
    have HKl : RowKit.Hid (K.length ≤ 1000000 ∧ ∀ x ∈ K, x.length ≤ 1000000) := Lib.hid ⟨by rw [← HK'.out]; have := hG.keys; omega, fun x hx => name_len x (((sortedN_spec (keysD Lm)).2 x).1 (by rw [HK'.out]; exact hx)).2⟩
    have hBa : wa.heap.size ≤ wa.heap.size := Nat.le_refl _
    obtain ⟨pT, cT, rfl⟩ := owns_form HJ.out.rT
    obtain ⟨pK, cK, rfl⟩ := owns_form HJ.out.rK
    clear hkf hnl hgma hgml
    go_loopw [9] (fun i wr => ∃ k : Nat, k ≤ Lm.length ∧ i = .int .i64 k ∧ QM wa w5 wr wa.heap.size Lm E S K (.slice pT Lm.length cT) k k 0) (fun i _ => Lm.length - (RowKit.intOf i).toNat)
    case atStart => exact ⟨0, Nat.zero_le _, rfl, QM.start HJ.out HB5.out⟩
    case round =>
     obtain ⟨k, hk, rfl, hq⟩ := hrel
     have HQ := Lib.hid hq
     have q2 := (hq.bx HJ.out).cell 2 rfl
     by_cases hk1 : k < Lm.length
     ·obtain ⟨gT, cT', sn, eT, -, -, -⟩ := hq.cellT HJ.out k hk1
      obtain ⟨gN, cN', eN, tN⟩ := hq.cellN HJ.out k hk1
      injection eT with eT _ eT'
      injection eN with eN _ eN'
      subst eT eT' eN eN'
      obtain ⟨d, hLk⟩ : ∃ d, Lm.getD k noD = d := ⟨_, rfl⟩
      rw [hLk] at tN
      have q0 := (hq.bx HJ.out).cell 0 rfl
      have q3 := (hq.bx HJ.out).cell 3 rfl
      have hgd := hG.all _ (getD_memD Lm k hk1)
      rw [hLk] at hgd
      have HGd := Lib.hid hgd
      have htS := HQ.out.texts HOS.out HLow.out
      have HFd := Lib.hid (fun w' (hb : Below wr.heap.size wr w') => rfind_any w' (.slice (some ⟨gS, 0, none⟩) S.length cS) S d.nm (htS.below hb) HSl.out.1 HSl.out.2)
      have HS : RowKit.Hid (∀ w', Below wr.heap.size wr w' → (w'.cell? ⟨gm, 2, none⟩ = some (.slice (some ⟨gT, 0, none⟩) Lm.length cT) ∧ w'.cell? ⟨gm, 0, none⟩ = some (.slice (some ⟨gS, 0, none⟩) S.length cS) ∧ w'.cell? ⟨gm, 3, none⟩ = some (.slice (some ⟨gN, 0, none⟩) Lm.length cN) ∧ w'.cell? ⟨gN, k, none⟩ = some (.string (bs d.nm)) ∧ Below wr.heap.size wr w')) := Lib.hid (fun w' hb => ⟨cell_later hb q2, cell_later hb q0, cell_later hb q3, cell_later hb tN, hb⟩)
      clear hq hgd htS
      go_wp2_with fail
      refine wp_region_keep (fun w' => w'.cell? ⟨gm, 2, none⟩ = some (.slice (some ⟨gT, 0, none⟩) Lm.length cT) ∧ w'.cell? ⟨gm, 0, none⟩ = some (.slice (some ⟨gS, 0, none⟩) S.length cS) ∧ w'.cell? ⟨gm, 3, none⟩ = some (.slice (some ⟨gN, 0, none⟩) Lm.length cN) ∧ w'.cell? ⟨gN, k, none⟩ = some (.string (bs d.nm)) ∧ Below wr.heap.size wr w') [24] (by kernel_rfl) ?_
      have hB0 : Below (wr).heap.size (wr) (wr).drew := Below.drew (Below.refl _ _)
      have hS0 := HS.out _ hB0
      refine wfr 0 (v := ?_) rfl ?_ ?_
      rotate_left
      ·intro w' hw';go_simp;try with_reducible rfl
      try simp only [Act.put, sq]
      refine wfr 1 (v := ?_) rfl ?_ ?_
      rotate_left
      ·intro w' hw';go_simp;try with_reducible rfl
      try simp only [Act.put, sq]
      refine wfr 2 (v := ?_) rfl ?_ ?_
      rotate_left
      ·intro w' hw';go_simp;try with_reducible rfl
      try simp only [Act.put, sq]
      refine wfr 3 (v := ?_) rfl ?_ ?_
      rotate_left
      ·intro w' hw';go_simp;try with_reducible rfl
      try simp only [Act.put, sq]
      refine wtk 4 25 (v := ?_) rfl ?_ hS0 ?_
      rotate_left
      ·intro w' hw';(try dsimp only at hw');go_simp;try with_reducible rfl
      try simp only [Act.put, sq]
      refine wfr 5 (v := ?_) rfl ?_ ?_
      rotate_left
      ·intro w' hw';go_simp;try with_reducible rfl
      try simp only [Act.put, sq]
      refine wfr 6 (v := ?_) rfl ?_ ?_
      rotate_left
      ·intro w' hw';go_simp;try with_reducible rfl
      try simp only [Act.put, sq]
      refine wfr 7 (v := ?_) rfl ?_ ?_
      rotate_left
      ·intro w' hw';go_simp;try with_reducible rfl
      try simp only [Act.put, sq]
      refine wfr 8 (v := ?_) rfl ?_ ?_
      rotate_left
      ·intro w' hw';go_simp;try with_reducible rfl
      try simp only [Act.put, sq]
      refine wfr 9 (v := ?_) rfl ?_ ?_
      rotate_left
      ·intro w' hw';go_simp;try with_reducible rfl
      try simp only [Act.put, sq]
      refine wtk 10 25 (v := ?_) rfl ?_ hS0 ?_
      rotate_left
      ·intro w' hw';(try dsimp only at hw');go_simp;try with_reducible rfl
      try simp only [Act.put, sq]
      refine wfr 11 (v := ?_) rfl ?_ ?_
      rotate_left
      ·intro w' hw';go_simp;try with_reducible rfl
      try simp only [Act.put, sq]
      refine wfr 12 (v := ?_) rfl ?_ ?_
      rotate_left
      ·intro w' hw';go_simp;try with_reducible rfl
      try simp only [Act.put, sq]
      refine wfr 13 (v := ?_) rfl ?_ ?_
      rotate_left
      ·intro w' hw';go_simp;try with_reducible rfl
      try simp only [Act.put, sq]
      refine wtk 14 25 (v := ?_) rfl ?_ hS0 ?_
      rotate_left
      ·intro w' hw';(try dsimp only at hw');go_simp;try with_reducible rfl
      try simp only [Act.put, sq]
      refine won 15 rfl fun K hK => ?_
      go_simp
      refine hK.out _ _ (fun _ h => h) ?_
      clear hK K
      try simp only [Act.put, sq]
      refine won 16 rfl fun K hK => ?_
      go_simp
      refine hK.out _ _ (fun _ h => h) ?_
      clear hK K
      try simp only [Act.put, sq]
      refine won 17 rfl fun K hK => ?_
      go_simp
      refine hK.out _ _ (fun _ h => h) ?_
      clear hK K
      try simp only [Act.put, sq]
      refine won 18 rfl fun K hK => ?_
      go_simp
      refine (HFd.out _ hB0).mono ?_
      rintro e w1 ⟨rfl, hb1⟩
      have hB1 := below_next hB0 hb1
      have hS1 := HS.out _ hB1
      refine hK.out _ _ (fun _ _ => hS1) ?_
      clear hK K hS0
      try simp only [Act.put, sq]
      refine won 19 rfl fun K hK => ?_
      go_simp
      refine hK.out _ _ (fun _ h => h) ?_
      clear hK K
      try simp only [Act.put, sq]
      refine wfr 20 (v := ?_) rfl ?_ ?_
      rotate_left
      ·intro w' hw';go_simp;try with_reducible rfl
      try simp only [Act.put, sq]
      refine wfr 21 (v := ?_) rfl ?_ ?_
      rotate_left
      ·intro w' hw';go_simp;try with_reducible rfl
      try simp only [Act.put, sq]
      refine won 22 rfl fun K hK => ?_
      go_simp
      refine hK.out _ _ (fun _ h => h) ?_
      clear hK K
      try simp only [Act.put, sq]
      refine won 23 rfl fun K hK => ?_
      go_simp
      refine hK.out _ _ (fun _ h => h) ?_
      clear hK K
      try simp only [Act.put, sq]
      have HQ1 := Lib.hid (HQ.out.below hB1 hBa)
      obtain ⟨gT1, cT1, sn1, eT1, t0, -, tf⟩ := HQ1.out.cellT HJ.out k hk1
      injection eT1 with eT1 _ eT2
      injection eT1 with eT1
      injection eT1 with eT1 _ _
      subst eT1
      clear eT2
      have tf0 := tf (k * 3)
      refine won 24 rfl fun K hK => ?_
      go_simp
      refine hK.out _ _ (fun h => absurd h (by decide)) ?_
      clear hK K
      try simp only [Act.put, sq]
      refine wpAnyM_done (by kernel_rfl) ?_ _
      try simp only [Act.put, sq]
      have hQ2 := HQ1.out.sess HJ.out hk1
      rw [hLk] at hQ2
      have HQ2a := Lib.hid hQ2
      clear HS hB0 hB1 hb1 HFd t0 tf tf0 hQ2 q0 q2 q3 tN HQ1 HQ
      obtain ⟨sx, hsx⟩ : ∃ q, ((findT S d.nm).1 : Int) = q := ⟨_, rfl⟩
      rw [hsx] at HQ2a
      try simp only [hsx]
      generalize w1.setCell ⟨gT, k * 3, none⟩ (.int .i64 sx) = w6 at *
      clear hsx
      go_wp2_with fail
      go_loopw [10] (fun i wq => ∃ j : Nat, j ≤ d.ops.length ∧ i = .int .i64 j ∧ QM wa w5 wq wa.heap.size Lm E S K (.slice (some ⟨gT, 0, none⟩) Lm.length cT) (k + 1) k j) (fun i _ => d.ops.length - (RowKit.intOf i).toNat)
      case atStart => exact ⟨0, Nat.zero_le _, rfl, HQ2a.out⟩
      case round =>
       obtain ⟨j, hj, rfl, hq⟩ := hrel
       have HQ2 := Lib.hid hq
       have q2 := (hq.bx HJ.out).cell 2 rfl
       obtain ⟨gT1, cT1, sn1, eT1, -, tO, -⟩ := hq.cellT HJ.out k hk1
       injection eT1 with eT1 _ eT2
       injection eT1 with eT1
       injection eT1 with eT1 _ _
       subst eT1
       clear eT2
       obtain ⟨⟨eo, ek⟩, hEk⟩ : ∃ e, E.getD k noR = e := ⟨_, rfl⟩
       rw [hEk] at tO
       dsimp only at tO
       have hoq := hq.ops k hk1
       rw [hEk, hLk] at hoq
       obtain ⟨po, co, eo'⟩ := owns_form hoq
       dsimp only at eo'
       subst eo'
       have hof := HGd.out.few
       by_cases hj1 : j < d.ops.length
       ·obtain ⟨go, co2, xo, eO, -, -⟩ := hq.cellO k hk1 (by rw [hLk]; exact HGd.out.len) (by rw [doneQ_self, hLk]; exact hj) j (by rw [hLk]; exact hj1)
        obtain ⟨gK, cK', eK, tK⟩ := hq.cellK HJ.out k hk1
        obtain ⟨gk, ck, eS, tS⟩ := hq.cellS HJ.out k hk1 j (by rw [hLk, HGd.out.len]; exact hj1)
        rw [hEk] at eO tK eS
        rw [hLk] at eO eS tS
        dsimp only at eO eS tK
        injection eO with eO _ eO'
        injection eK with eK _ eK'
        subst eO eO' eK eK' eS
        obtain ⟨kt, hkt⟩ : ∃ q, d.ks.getD j [] = q := ⟨_, rfl⟩
        rw [hkt] at tS
        have hlk : d.ks.length = d.ops.length := HGd.out.len
        have hjk : j < d.ks.length := by omega
        have q1 := (hq.bx HJ.out).cell 1 rfl
        have q4 := (hq.bx HJ.out).cell 4 rfl
        have htK := HQ2.out.texts HOK.out HLow.out
        have HFk := Lib.hid (fun w' (hb : Below wr.heap.size wr w') => rfind_any w' (.slice (some ⟨gK0, 0, none⟩) K.length cK0) K kt (htK.below hb) HKl.out.1 HKl.out.2)
        have HS : RowKit.Hid (∀ w', Below wr.heap.size wr w' → (w'.cell? ⟨gm, 2, none⟩ = some (.slice (some ⟨gT, 0, none⟩) Lm.length cT) ∧ w'.cell? ⟨gT, k * 3 + 2, none⟩ = some (.slice (some ⟨go, 0, none⟩) d.ops.length co) ∧ w'.cell? ⟨gm, 1, none⟩ = some (.slice (some ⟨gK0, 0, none⟩) K.length cK0) ∧ w'.cell? ⟨gm, 4, none⟩ = some (.slice (some ⟨gK, 0, none⟩) Lm.length cK) ∧ w'.cell? ⟨gK, k, none⟩ = some (.slice (some ⟨gk, 0, none⟩) d.ks.length ck) ∧ w'.cell? ⟨gk, j, none⟩ = some (.string (bs kt)) ∧ Below wr.heap.size wr w')) := Lib.hid (fun w' hb => ⟨cell_later hb q2, cell_later hb tO, cell_later hb q1, cell_later hb q4, cell_later hb tK, cell_later hb tS, hb⟩)
        have HLk := Lib.hid hlk
        clear hq htK hoq hlk
        go_wp2_with fail
        refine wp_region_keep (fun w' => w'.cell? ⟨gm, 2, none⟩ = some (.slice (some ⟨gT, 0, none⟩) Lm.length cT) ∧ w'.cell? ⟨gT, k * 3 + 2, none⟩ = some (.slice (some ⟨go, 0, none⟩) d.ops.length co) ∧ w'.cell? ⟨gm, 1, none⟩ = some (.slice (some ⟨gK0, 0, none⟩) K.length cK0) ∧ w'.cell? ⟨gm, 4, none⟩ = some (.slice (some ⟨gK, 0, none⟩) Lm.length cK) ∧ w'.cell? ⟨gK, k, none⟩ = some (.slice (some ⟨gk, 0, none⟩) d.ks.length ck) ∧ w'.cell? ⟨gk, j, none⟩ = some (.string (bs kt)) ∧ Below wr.heap.size wr w') [31] (by kernel_rfl) ?_
        have hB0 : Below (wr).heap.size (wr) (wr).drew := Below.drew (Below.refl _ _)
        have hS0 := HS.out _ hB0
        refine wfr 0 (v := ?_) rfl ?_ ?_
        rotate_left
        ·intro w' hw';go_simp;try with_reducible rfl
        try simp only [Act.put, sq]
        refine wfr 1 (v := ?_) rfl ?_ ?_
        rotate_left
        ·intro w' hw';go_simp;try with_reducible rfl
        try simp only [Act.put, sq]
        refine wfr 2 (v := ?_) rfl ?_ ?_
        rotate_left
        ·intro w' hw';go_simp;try with_reducible rfl
        try simp only [Act.put, sq]
        refine wfr 3 (v := ?_) rfl ?_ ?_
        rotate_left
        ·intro w' hw';go_simp;try with_reducible rfl
        try simp only [Act.put, sq]
        refine wtk 4 32 (v := ?_) rfl ?_ hS0 ?_
        rotate_left
        ·intro w' hw';(try dsimp only at hw');go_simp;try with_reducible rfl
        try simp only [Act.put, sq]
        refine wfr 5 (v := ?_) rfl ?_ ?_
        rotate_left
        ·intro w' hw';go_simp;try with_reducible rfl
        try simp only [Act.put, sq]
        refine wfr 6 (v := ?_) rfl ?_ ?_
        rotate_left
        ·intro w' hw';go_simp;try with_reducible rfl
        try simp only [Act.put, sq]
        refine wfr 7 (v := ?_) rfl ?_ ?_
        rotate_left
        ·intro w' hw';go_simp;try with_reducible rfl
        try simp only [Act.put, sq]
        refine wtk 8 32 (v := ?_) rfl ?_ hS0 ?_
        rotate_left
        ·intro w' hw';(try dsimp only at hw');go_simp;try with_reducible rfl
        try simp only [Act.put, sq]
        refine wfr 9 (v := ?_) rfl ?_ ?_
        rotate_left
        ·intro w' hw';go_simp;try with_reducible rfl
        try simp only [Act.put, sq]
        refine wfr 10 (v := ?_) rfl ?_ ?_
        rotate_left
        ·intro w' hw';go_simp;try with_reducible rfl
        try simp only [Act.put, sq]
        refine wfr 11 (v := ?_) rfl ?_ ?_
        rotate_left
        ·intro w' hw';go_simp;try with_reducible rfl
        try simp only [Act.put, sq]
        refine wfr 12 (v := ?_) rfl ?_ ?_
        rotate_left
        ·intro w' hw';go_simp;try with_reducible rfl
        try simp only [Act.put, sq]
        refine wfr 13 (v := ?_) rfl ?_ ?_
        rotate_left
        ·intro w' hw';go_simp;try with_reducible rfl
        try simp only [Act.put, sq]
        refine wtk 14 32 (v := ?_) rfl ?_ hS0 ?_
        rotate_left
        ·intro w' hw';(try dsimp only at hw');go_simp;try with_reducible rfl
        try simp only [Act.put, sq]
        refine wfr 15 (v := ?_) rfl ?_ ?_
        rotate_left
        ·intro w' hw';go_simp;try with_reducible rfl
        try simp only [Act.put, sq]
        refine wfr 16 (v := ?_) rfl ?_ ?_
        rotate_left
        ·intro w' hw';go_simp;try with_reducible rfl
        try simp only [Act.put, sq]
        refine wfr 17 (v := ?_) rfl ?_ ?_
        rotate_left
        ·intro w' hw';go_simp;try with_reducible rfl
        try simp only [Act.put, sq]
        refine wtk 18 32 (v := ?_) rfl ?_ hS0 ?_
        rotate_left
        ·intro w' hw';(try dsimp only at hw');go_simp;try with_reducible rfl
        try simp only [Act.put, sq]
        refine wfr 19 (v := ?_) rfl ?_ ?_
        rotate_left
        ·intro w' hw';go_simp;try with_reducible rfl
        try simp only [Act.put, sq]
        refine wfr 20 (v := ?_) rfl ?_ ?_
        rotate_left
        ·intro w' hw';go_simp;try with_reducible rfl
        try simp only [Act.put, sq]
        refine wtk 21 32 (v := ?_) rfl ?_ hS0 ?_
        rotate_left
        ·intro w' hw';(try dsimp only at hw');go_simp;try with_reducible rfl
        try simp only [Act.put, sq]
        refine won 22 rfl fun K hK => ?_
        go_simp
        refine hK.out _ _ (fun _ h => h) ?_
        clear hK K
        try simp only [Act.put, sq]
        refine won 23 rfl fun K hK => ?_
        go_simp
        refine hK.out _ _ (fun _ h => h) ?_
        clear hK K
        try simp only [Act.put, sq]
        refine won 24 rfl fun K hK => ?_
        go_simp
        refine hK.out _ _ (fun _ h => h) ?_
        clear hK K
        try simp only [Act.put, sq]
        refine won 25 rfl fun K hK => ?_
        go_simp
        refine (HFk.out _ hB0).mono ?_
        rintro e w1 ⟨rfl, hb1⟩
        have hB1 := below_next hB0 hb1
        have hS1 := HS.out _ hB1
        refine hK.out _ _ (fun _ _ => hS1) ?_
        clear hK K hS0
        try simp only [Act.put, sq]
        refine won 26 rfl fun K hK => ?_
        go_simp
        refine hK.out _ _ (fun _ h => h) ?_
        clear hK K
        try simp only [Act.put, sq]
        refine wfr 27 (v := ?_) rfl ?_ ?_
        rotate_left
        ·intro w' hw';go_simp;try with_reducible rfl
        try simp only [Act.put, sq]
        refine wfr 28 (v := ?_) rfl ?_ ?_
        rotate_left
        ·intro w' hw';go_simp;try with_reducible rfl
        try simp only [Act.put, sq]
        refine won 29 rfl fun K hK => ?_
        go_simp
        refine hK.out _ _ (fun _ h => h) ?_
        clear hK K
        try simp only [Act.put, sq]
        refine won 30 rfl fun K hK => ?_
        go_simp
        refine hK.out _ _ (fun _ h => h) ?_
        clear hK K
        try simp only [Act.put, sq]
        have HQ3 := Lib.hid (HQ2.out.below hB1 hBa)
        obtain ⟨go1, co1, x1, eO1, o1, of1⟩ := HQ3.out.cellO k hk1 (by rw [hLk]; exact HGd.out.len) (by rw [doneQ_self, hLk]; exact hj) j (by rw [hLk]; exact hj1)
        rw [hEk] at eO1
        injection eO1 with eO1 _ eO2
        injection eO1 with eO1
        injection eO1 with eO1 _ _
        subst eO1
        clear eO2
        have of0 := of1 (j * 4 + 1)
        refine won 31 rfl fun K hK => ?_
        go_simp
        refine hK.out _ _ (fun h => absurd h (by decide)) ?_
        clear hK K
        try simp only [Act.put, sq]
        refine wpAnyM_done (by kernel_rfl) ?_ _
        try simp only [Act.put, sq]
        have hQ4 := HQ3.out.op (co := co) HJ.out hk1 (by rw [hEk, hLk]) (by rw [hLk]; exact HGd.out.len) (by rw [hLk]; exact hj1)
        rw [hLk, hkt] at hQ4
        have HQ4 := Lib.hid hQ4
        clear HS hB0 hB1 hb1 HFk hQ4 o1 of1 of0 HQ3
        go_wp2_with fail
        go_roundw
        case rel => exact ⟨j + 1, by omega, by go_num, HQ4.out⟩
        case measure => simp [RowKit.intOf]; omega
       ·have hje : j = d.ops.length := by omega
        subst hje
        have HQ5 : RowKit.Hid (QM wa w5 wr wa.heap.size Lm E S K (.slice (some ⟨gT, 0, none⟩) Lm.length cT) (k + 1) (k + 1) 0) := Lib.hid (QM.turn (by rw [hLk]; exact HQ2.out))
        clear hq hoq HQ2
        go_wp2_with fail
        go_roundw
        case rel => exact ⟨k + 1, by omega, by go_num, HQ5.out⟩
        case measure => simp [RowKit.intOf]; omega
     ·have hke : k = Lm.length := by omega
      subst hke
      have q0 := (hq.bx HJ.out).cell 0 rfl
      have q1 := (hq.bx HJ.out).cell 1 rfl
      have hb7 : Below gr w wr := HAL.out.trans (hq.bel.mono (by omega))
      have HRg := Lib.hid (HRA.out.below hq.bel (by omega))
      have r0 := HRg.out.cell 0 rfl
      have r1 := HRg.out.cell 1 rfl
      have r2 := HRg.out.cell 2 rfl
      have f0 := HRg.out.frozen 0
      have f1 := HRg.out.frozen 1
      have f2 := HRg.out.frozen 2
      have HST := Lib.hid (store3 HRg.out (.slice (some ⟨gS, 0, none⟩) S.length cS) (.slice (some ⟨gK0, 0, none⟩) K.length cK0) (.slice pT Lm.length cT))
      have HB9 := Lib.hid (((hb7.setCell (p := ⟨gr, 0, none⟩) (Nat.le_refl _) (.slice (some ⟨gS, 0, none⟩) S.length cS)).setCell (p := ⟨gr, 1, none⟩) (Nat.le_refl _) (.slice (some ⟨gK0, 0, none⟩) K.length cK0)).setCell (p := ⟨gr, 2, none⟩) (Nat.le_refl _) (.slice pT Lm.length cT))
      have hlow : ∀ q, wb.heap.size ≤ q → q ≠ gr := fun q h1 => by have := hb2.size; omega
      have HT1 := Lib.hid (HOS.out _ (fun q g1 g2 g3 => (HST.out.2.1 q (hlow q g1)).trans (hq.far q g3 (fun e => by have := HLow.out.1 q e; omega) (fun j hj e => by have := HLow.out.2 j hj q e; omega))))
      have HT2 := Lib.hid (HOK.out _ (fun q g1 g2 g3 => (HST.out.2.1 q (hlow q g1)).trans (hq.far q g3 (fun e => by have := HLow.out.1 q e; omega) (fun j hj e => by have := HLow.out.2 j hj q e; omega))))
      have hgw : gr < wa.heap.size := by omega
      have HT3 := Lib.hid (txns_ofR (w := ((wr.setCell ⟨gr, 0, none⟩ (.slice (some ⟨gS, 0, none⟩) S.length cS)).setCell ⟨gr, 1, none⟩ (.slice (some ⟨gK0, 0, none⟩) K.length cK0)).setCell ⟨gr, 2, none⟩ (.slice pT Lm.length cT)) (owns_far (a := ⟨gr, 2, none⟩) (owns_far (a := ⟨gr, 1, none⟩) (owns_far (a := ⟨gr, 0, none⟩) hq.rT hgw _) hgw _) hgw _) (fun q h1 => owns_far (a := ⟨gr, 2, none⟩) (owns_far (a := ⟨gr, 1, none⟩) (owns_far (a := ⟨gr, 0, none⟩) (hq.opsEnd q h1) hgw _) hgw _) hgw _) HJ.out.len hG)
      clear hq
      go_wp21
      rw [HE.out]
      refine bodyPost_ret (ret_hR _ _ _ HST.out.1 rfl rfl rfl) rfl ⟨_, rfl, ⟨_, _, _, rfl, HT1.out, HT2.out, HT3.out⟩, ?_⟩
      rw [hgr]
      exact HB9.out
 ·have hfb : (er != 0) = true := by simpa using her
  have HE := Lib.hid (hist_err L HMP.out her)
  have r0 := HR2.out.cell 0 rfl
  have r1 := HR2.out.cell 1 rfl
  have r2 := HR2.out.cell 2 rfl
  have f0 := HR2.out.frozen 0
  have f1 := HR2.out.frozen 1
  have f2 := HR2.out.frozen 2
  have HRS := Lib.hid (((HR2.out.set 0 (.slice none 0 0)).set 1 (.slice none 0 0)).set 2 (.slice none 0 0))
  have hb3 : Below gr w wb := HAL.out.trans (hb2.mono (by omega))
  clear her hwi
  go_wp21
  rw [HE.out]
  refine bodyPost_ret (ret_hR _ _ _ HRS.out rfl rfl rfl) rfl ⟨_, rfl, histV_no _, ?_⟩
  rw [hgr]
  exact ((hb3.setCell (Nat.le_refl _) _).setCell (Nat.le_refl _) _).setCell (Nat.le_refl _) _
end Go.Proofs.YtmgchjddpmmglaaGreatDoor
