/-
  The walk of layer 7 (event): what the reference reads a line as. Texts of at most 1,000,000 bytes.
-/
import Derived.Test.YtmgchjddpmmglaaGreatDoorQSa
import Derived.Test.YtmgchjddpmmglaaGreatDoorQxEvR
import Derived.Test.YtmgchjddpmmglaaGreatDoorQxEvX
namespace Go.Proofs.YtmgchjddpmmglaaGreatDoor
open Go.RowKit Go.Lib
section
attribute [local go_sem ↓] store_ev storeVar_ev load_ev loadVar_ev there_set'
set_option maxRecDepth 100000 in
set_option maxHeartbeats 4000000 in
theorem reparse_early (l : List UInt8) (hl : l.length ≤ 1000000) (w : World) (h1 : wordsR l = ([], 5) ∨ wordsR l = ([], 0)) :
  Calls Tryz.prog 122 #[.string (bs l)] w fun e w' => e = .returned (.tuple #[evV (parseE l).1, .bool (parseE l).2.1, .int .i64 (parseE l).2.2]) ∧ Below w.heap.size w w' := by
 have HW := Lib.hid (fun w' => rwords_any l hl w')
 have T0 := Lib.hid (there_new w 123 (.int .i64 0) (.string { data := #[] }) (.string { data := #[] }) (.int .i64 0) (.int .i64 0) (.int .i64 0))
 rcases h1 with h | h
 ·rw [parse_err l h]
  rw [h] at HW
  clear h
  go_enter Tryz.func122, Tryz.ntmps122
  go_wp2_with fail
  refine (HW.out _).mono ?_
  rintro e w1 ⟨v, rfl, hw1, hb1⟩
  obtain ⟨p, cap, rfl, hcw, -⟩ := hw1
  have T1 := there_later (there_past T0.out _) hb1
  obtain ⟨hc1, hf1⟩ := bcell hb1
  have hz1 := hb1.size
  simp at hz1
  have hl0 : w.heap.size < w1.heap.size := by omega
  have hl1 : w.heap.size + 1 < w1.heap.size := by omega
  have hbx1 : Below w.heap.size w w1 := bes
  have s0 : (w1.cell? ⟨w.heap.size, 0, none⟩).isSome = true := by have h9 := (T1 0 (by omega)).1; simpa only [Nat.zero_add] using h9
  have y0 : (w1.frozen? ⟨w.heap.size, 0, none⟩) = false := by have h9 := (T1 0 (by omega)).2; simpa only [Nat.zero_add] using h9
  have s1 : (w1.cell? ⟨w.heap.size, 1, none⟩).isSome = true := by have h9 := (T1 1 (by omega)).1; simpa only [Nat.zero_add] using h9
  have y1 : (w1.frozen? ⟨w.heap.size, 1, none⟩) = false := by have h9 := (T1 1 (by omega)).2; simpa only [Nat.zero_add] using h9
  have s2 : (w1.cell? ⟨w.heap.size, 2, none⟩).isSome = true := by have h9 := (T1 2 (by omega)).1; simpa only [Nat.zero_add] using h9
  have y2 : (w1.frozen? ⟨w.heap.size, 2, none⟩) = false := by have h9 := (T1 2 (by omega)).2; simpa only [Nat.zero_add] using h9
  have s3 : (w1.cell? ⟨w.heap.size, 3, none⟩).isSome = true := by have h9 := (T1 3 (by omega)).1; simpa only [Nat.zero_add] using h9
  have y3 : (w1.frozen? ⟨w.heap.size, 3, none⟩) = false := by have h9 := (T1 3 (by omega)).2; simpa only [Nat.zero_add] using h9
  have s4 : (w1.cell? ⟨w.heap.size, 4, none⟩).isSome = true := by have h9 := (T1 4 (by omega)).1; simpa only [Nat.zero_add] using h9
  have y4 : (w1.frozen? ⟨w.heap.size, 4, none⟩) = false := by have h9 := (T1 4 (by omega)).2; simpa only [Nat.zero_add] using h9
  have s5 : (w1.cell? ⟨w.heap.size, 5, none⟩).isSome = true := by have h9 := (T1 5 (by omega)).1; simpa only [Nat.zero_add] using h9
  have y5 : (w1.frozen? ⟨w.heap.size, 5, none⟩) = false := by have h9 := (T1 5 (by omega)).2; simpa only [Nat.zero_add] using h9
  go_wp21
  refine bodyPost_ret ?_ rfl ⟨rfl, ?_⟩
  ·simp [results, Tryz.results122, go_sem, s0, s1, s2, s3, s4, s5, World.cell?_setCell_same', World.cell?_setCell_other, evV, noEv]
   try rfl
  ·exact bes
 ·rw [parse_none l h]
  rw [h] at HW
  clear h
  go_enter Tryz.func122, Tryz.ntmps122
  go_wp2_with fail
  refine (HW.out _).mono ?_
  rintro e w1 ⟨v, rfl, hw1, hb1⟩
  obtain ⟨p, cap, rfl, hcw, -⟩ := hw1
  have T1 := there_later (there_past T0.out _) hb1
  obtain ⟨hc1, hf1⟩ := bcell hb1
  have hz1 := hb1.size
  simp at hz1
  have hl0 : w.heap.size < w1.heap.size := by omega
  have hl1 : w.heap.size + 1 < w1.heap.size := by omega
  have hbx1 : Below w.heap.size w w1 := bes
  have s0 : (w1.cell? ⟨w.heap.size, 0, none⟩).isSome = true := by have h9 := (T1 0 (by omega)).1; simpa only [Nat.zero_add] using h9
  have y0 : (w1.frozen? ⟨w.heap.size, 0, none⟩) = false := by have h9 := (T1 0 (by omega)).2; simpa only [Nat.zero_add] using h9
  have s1 : (w1.cell? ⟨w.heap.size, 1, none⟩).isSome = true := by have h9 := (T1 1 (by omega)).1; simpa only [Nat.zero_add] using h9
  have y1 : (w1.frozen? ⟨w.heap.size, 1, none⟩) = false := by have h9 := (T1 1 (by omega)).2; simpa only [Nat.zero_add] using h9
  have s2 : (w1.cell? ⟨w.heap.size, 2, none⟩).isSome = true := by have h9 := (T1 2 (by omega)).1; simpa only [Nat.zero_add] using h9
  have y2 : (w1.frozen? ⟨w.heap.size, 2, none⟩) = false := by have h9 := (T1 2 (by omega)).2; simpa only [Nat.zero_add] using h9
  have s3 : (w1.cell? ⟨w.heap.size, 3, none⟩).isSome = true := by have h9 := (T1 3 (by omega)).1; simpa only [Nat.zero_add] using h9
  have y3 : (w1.frozen? ⟨w.heap.size, 3, none⟩) = false := by have h9 := (T1 3 (by omega)).2; simpa only [Nat.zero_add] using h9
  have s4 : (w1.cell? ⟨w.heap.size, 4, none⟩).isSome = true := by have h9 := (T1 4 (by omega)).1; simpa only [Nat.zero_add] using h9
  have y4 : (w1.frozen? ⟨w.heap.size, 4, none⟩) = false := by have h9 := (T1 4 (by omega)).2; simpa only [Nat.zero_add] using h9
  have s5 : (w1.cell? ⟨w.heap.size, 5, none⟩).isSome = true := by have h9 := (T1 5 (by omega)).1; simpa only [Nat.zero_add] using h9
  have y5 : (w1.frozen? ⟨w.heap.size, 5, none⟩) = false := by have h9 := (T1 5 (by omega)).2; simpa only [Nat.zero_add] using h9
  go_wp21
  refine bodyPost_ret ?_ rfl ⟨rfl, ?_⟩
  ·simp [results, Tryz.results122, go_sem, s0, s1, s2, s3, s4, s5, World.cell?_setCell_same', World.cell?_setCell_other, evV, noEv]
   try rfl
  ·exact bes
theorem results_cell3 {fn : Func} {a t : Nat} {u v : Tmp} (h : fn.results = #[.cell a t, .tmp u, .tmp v]) (tmps : Array Value) (P : Program) (w : World) (A : Addr) (x : Value) (ha : tmps.getD a undef = .pointer (some A)) (hl : (loadVar t A).run P w = .ok x w) :
  (results fn tmps).run P w = .ok (.tuple #[x, tmps.getD u undef, tmps.getD v undef]) w := by
 have ha' : tmps[a]?.getD undef = .pointer (some A) := by simpa using ha
 simp [results, h, ha', hl, asAddr]
theorem cell_far (w : World) (a q : Addr) (v : Value) (h : a.block ≠ q.block) : (w.setCell a v).cell? q = w.cell? q :=
 World.cell?_setCell_other w a q v (fun e => h (by rw [e]))
theorem range_patch {W : World} {B : Nat} {t : TypeId} {c0 c1 c2 c3 c4 c5 : Value} (h : W.heap[B]? = some (.cells #[c0, c1, c2, c3, c4, c5] t (0, 0))) (u2 u3 u4 : Value) :
  (((W.setCell ⟨B, 2, none⟩ u2).setCell ⟨B, 3, none⟩ u3).setCell ⟨B, 4, none⟩ u4).rangeAt B 0 [c0, c1, u2, u3, u4, c5] := by
 have e : (((W.setCell ⟨B, 2, none⟩ u2).setCell ⟨B, 3, none⟩ u3).setCell ⟨B, 4, none⟩ u4).heap[B]? = some (.cells #[c0, c1, u2, u3, u4, c5] t (0, 0)) := by
  simp [World.setCell, Array.getElem?_modify, h]
 intro j v hj
 rw [Nat.zero_add, cell_of_row _ B j _ _ (0, 0) e]
 simpa using hj
theorem ret_ev {w : World} {b : Nat} (x : EventM) (tmps : Array Value) (v3 v4 : Value) (h : w.rangeAt b 0 (evc x)) (h2 : tmps.getD 2 undef = .pointer (some ⟨b, 0, none⟩)) (h3 : tmps.getD 3 undef = v3) (h4 : tmps.getD 4 undef = v4) :
  (results Tryz.f122 tmps).run Tryz.prog w = .ok (.tuple #[evV x, v3, v4]) w := by
 have hl := run_loadVar_mid (P := Tryz.prog) w b 0 123 (evc x) _ h Tryz.underlying123 rfl (by kernel_rfl)
 rw [← h3, ← h4]
 exact results_cell3 Tryz.results122 tmps _ w _ _ h2 hl
set_option maxRecDepth 100000 in
set_option maxHeartbeats 16000000 in
theorem reparse_words (l : List UInt8) (hl : l.length ≤ 1000000) (w : World) (W : List (List UInt8 × Nat)) (h : wordsR l = (W, 0)) (hW0 : W ≠ []) :
  Calls Tryz.prog 122 #[.string (bs l)] w fun e w' => e = .returned (.tuple #[evV (parseE l).1, .bool (parseE l).2.1, .int .i64 (parseE l).2.2]) ∧ Below w.heap.size w w' := by
 have HW := Lib.hid (fun w' => rwords_any l hl w')
 have T0 := Lib.hid (there_new w 123 (.int .i64 0) (.string { data := #[] }) (.string { data := #[] }) (.int .i64 0) (.int .i64 0) (.int .i64 0))
 have hle := word_len l
 rw [parse_f l W h hW0]
 rw [h] at HW hle
 have hm0 : 0 < W.length := List.length_pos_iff.2 hW0
 obtain ⟨m, hLn⟩ : ∃ m, W.length = m := ⟨_, rfl⟩
 obtain ⟨l0, hl0'⟩ : ∃ x, (W.getD 0 ([], 0)).1 = x := ⟨_, rfl⟩
 obtain ⟨l1, hl1'⟩ : ∃ x, (W.getD 1 ([], 0)).1 = x := ⟨_, rfl⟩
 obtain ⟨l2, hl2'⟩ : ∃ x, (W.getD 2 ([], 0)).1 = x := ⟨_, rfl⟩
 obtain ⟨l3, hl3'⟩ : ∃ x, (W.getD 3 ([], 0)).1 = x := ⟨_, rfl⟩
 rw [hLn, hl0', hl1', hl2', hl3']
 rw [hLn] at hm0
 have HLn := Lib.hid hLn
 have HL0 := Lib.hid hl0'
 have HL1 := Lib.hid hl1'
 have HL2 := Lib.hid hl2'
 have HL3 := Lib.hid hl3'
 have q1 : l1.length ≤ 1000000 := by rw [← hl1']; exact Nat.le_trans (hle 1) hl
 have q2 : l2.length ≤ 1000000 := by rw [← hl2']; exact Nat.le_trans (hle 2) hl
 have q3 : l3.length ≤ 1000000 := by rw [← hl3']; exact Nat.le_trans (hle 3) hl
 have HN1 := Lib.hid (fun w' => ris_any l1 q1 w')
 have HN2 := Lib.hid (fun w' => ris_any l2 q2 w')
 have HVv := Lib.hid (fun a b c (hp : vParse l3 = (a, b, c)) w' => refvparse_of l3 a b c (by omega) hp w')
 have HF : RowKit.Hid (readF m l0 l1 l2 l3 = if (decide (kindL l0 ≠ 0) && (decide (m = if longK (kindL l0) then 4 else 2) && (nameL l1 && (!longK (kindL l0) || nameL l2)))) = false then (noEv, false, 5) else if longK (kindL l0) then ((valuedE (kindL l0) l1 l2 l3).1, decide ((valuedE (kindL l0) l1 l2 l3).2 = 0), (valuedE (kindL l0) l1 l2 l3).2) else ((kindL l0, l1, [], 0, 0, 0), true, 0)) := Lib.hid rfl
 generalize readF m l0 l1 l2 l3 = R at *
 clear hLn hl0' hl1' hl2' hl3' h hle q1 q2 q3 hl hW0
 go_enter Tryz.func122, Tryz.ntmps122
 go_wp2_with fail
 refine (HW.out _).mono ?_
 rintro e w1 ⟨v, rfl, hw1, hb1⟩
 obtain ⟨p, cap, rfl, hcw, -⟩ := hw1
 have T1 := there_later (there_past T0.out _) hb1
 obtain ⟨hc1, hf1⟩ := bcell hb1
 have hz1 := hb1.size
 simp at hz1
 have hl0 : w.heap.size < w1.heap.size := by omega
 have hl1 : w.heap.size + 1 < w1.heap.size := by omega
 have hbx1 : Below w.heap.size w w1 := bes
 obtain ⟨g, rfl, c0, -⟩ := hcw 0 (by rw [HLn.out]; omega)
 rw [HL0.out, Nat.zero_mul] at c0
 have hgl : g < w1.heap.size := World.block_lt_of_cell? w1 _ c0
 have HCW := Lib.hid hcw
 have HBX := Lib.hid hbx1
 have TR1 := Lib.hid T1
 rw [HLn.out]
 clear hcw hbx1 T1
 have hmz : ((m : Int) == 0) = false := beq_eq_false_iff_ne.2 (by omega)
 go_upto_block 0 with fail
 go_cut [8] (fun s8 wx => s8 = .int .i64 (kindL l0) ∧ Below w1.heap.size w1 wx)
 case first =>
  go_wp2_with fail
  go_loopw [8, 9] (fun k8 k9 wr => ∃ i : Nat, 1 ≤ i ∧ i ≤ 7 ∧ k9 = .int .i64 i ∧ k8 = .int .i64 (seenK l0 i) ∧ Below w1.heap.size w1 wr) (fun _ k9 _ => 7 - (RowKit.intOf k9).toNat)
  case atStart => exact ⟨1, Nat.le_refl _, by omega, rfl, by rw [seenK_one], Below.refl _ _⟩
  case round =>
   obtain ⟨i, h1i, hi7, rfl, rfl, hbw⟩ := hrel
   have q0 := cell_later hbw c0
   by_cases hlt : i < 7
   ·have HS : RowKit.Hid (∀ w', Below wr.heap.size wr w' → (w'.cell? ⟨g, 0, none⟩ = some (.string (bs l0)) ∧ Below wr.heap.size wr w')) := Lib.hid (fun w' hb => ⟨cell_later hb q0, hb⟩)
    go_wp2_with fail
    refine wp_region_late (fun w' => w'.cell? ⟨g, 0, none⟩ = some (.string (bs l0)) ∧ Below wr.heap.size wr w') [] (by kernel_rfl) ?_
    have hB0 : Below (wr).heap.size (wr) (wr).drew := Below.drew (Below.refl _ _)
    have hS0 := HS.out _ hB0
    refine wpAnyL_take 1 9 (v := ?_) rfl (by kernel_rfl) (by kernel_rfl) (by kernel_rfl) (by kernel_rfl) (by kernel_rfl) (fun _ _ _ h => h) (Or.inl ⟨by rfl, ?_⟩) hS0 ?_
    rotate_left
    ·intro w' hw';(try dsimp only at hw');go_simp;try with_reducible rfl
    try simp only [Act.put, sq]
    refine wpAnyL_take 4 9 (v := ?_) rfl (by kernel_rfl) (by kernel_rfl) (by kernel_rfl) (by kernel_rfl) (by kernel_rfl) (fun _ _ _ h => h) (Or.inl ⟨by rfl, ?_⟩) hS0 ?_
    rotate_left
    ·intro w' hw';(try dsimp only at hw');go_simp;try with_reducible rfl
    try simp only [Act.put, sq]
    refine wpAnyL_take 5 9 (v := ?_) rfl (by kernel_rfl) (by kernel_rfl) (by kernel_rfl) (by kernel_rfl) (by kernel_rfl) (fun _ _ _ h => h) (Or.inl ⟨by rfl, ?_⟩) hS0 ?_
    rotate_left
    ·intro w' hw';(try dsimp only at hw');go_simp;try with_reducible rfl
    try simp only [Act.put, sq]
    refine wpAnyL_take 6 9 (v := ?_) rfl (by kernel_rfl) (by kernel_rfl) (by kernel_rfl) (by kernel_rfl) (by kernel_rfl) (fun _ _ _ h => h) (Or.inl ⟨by rfl, ?_⟩) hS0 ?_
    rotate_left
    ·intro w' hw';(try dsimp only at hw');go_simp;try with_reducible rfl
    try simp only [Act.put, sq]
    refine wpAnyL_take 7 9 (v := ?_) rfl (by kernel_rfl) (by kernel_rfl) (by kernel_rfl) (by kernel_rfl) (by kernel_rfl) (fun _ _ _ h => h) (Or.inl ⟨by rfl, ?_⟩) hS0 ?_
    rotate_left
    ·intro w' hw';(try dsimp only at hw');go_simp;try with_reducible rfl
    try simp only [Act.put, sq]
    refine wpAnyL_one 0 rfl (by kernel_rfl) (fun K hK => ?_)
    go_simp
    refine (rkinds_any _).mono ?_
    rintro e w2 ⟨rfl, hkc, hgl, hb2⟩
    have hB1 := below_next hB0 hb2
    have hS1 := HS.out _ hB1
    have hkw : w2.cell? ⟨wr.heap.size, i, none⟩ = some (.string (bs (kindW (i : Int)))) := hkc i (by omega)
    have hi0 : (0 : Int) ≤ (i : Int) := by omega
    have hi7 : (i : Int) < 7 := by omega
    refine hK.out _ _ (fun _ => hS1) ?_
    clear hK K hS0
    try simp only [Act.put, sq]
    refine wpAnyL_one 2 rfl (by kernel_rfl) (fun K hK => ?_)
    go_simp
    refine hK.out _ _ (fun _ => hS1) ?_
    clear hK K
    try simp only [Act.put, sq]
    refine wpAnyL_one 3 rfl (by kernel_rfl) (fun K hK => ?_)
    go_simp
    refine hK.out _ _ (fun _ => hS1) ?_
    clear hK K
    try simp only [Act.put, sq]
    refine wpAnyL_one 8 rfl (by kernel_rfl) (fun K hK => ?_)
    go_simp
    refine hK.out _ _ (fun _ => hS1) ?_
    clear hK K
    try simp only [Act.put, sq]
    refine wpAnyL_done (by kernel_rfl) ?_ _
    try simp only [Act.put, sq]
    have hbw2 := below_next hbw hB1
    go_wp2_with fail
    ·have HH := Lib.hid (seenK_hit l0 i h1i hlt (by rename_i hk; simpa using hk))
     go_roundw
     case rel => exact ⟨i + 1, by omega, by omega, by go_num, by rw [HH.out], hbw2⟩
     case measure => simp [RowKit.intOf]; omega
    ·have HH := Lib.hid (seenK_miss l0 i h1i hlt (by rename_i hk; simpa using hk))
     go_roundw
     case rel => exact ⟨i + 1, by omega, by omega, by go_num, by rw [HH.out], hbw2⟩
     case measure => simp [RowKit.intOf]; omega
   ·have hi : i = 7 := by omega
    subst hi
    have HE := Lib.hid (seenK_end l0)
    go_wp2_with fail
    go_meet
    exact ⟨by rw [HE.out], hbw⟩
 case rest =>
  obtain ⟨rfl, hbw⟩ := hcut
  obtain ⟨wo, rfl⟩ : ∃ wo : World, wo = wc := ⟨_, rfl⟩
  have hbc := below_next hb1 hbw
  obtain ⟨hcw, hfw⟩ := bcell hbc
  have hzw := hbc.size
  simp at hzw
  have hlw0 : w.heap.size < wo.heap.size := by omega
  have hlw1 : w.heap.size + 1 < wo.heap.size := by omega
  have TR := Lib.hid (there_later TR1.out hbw)
  have hgw : g < wo.heap.size := by have := hbw.size; omega
  have HBW : RowKit.Hid (Below w.heap.size w wo) := Lib.hid (below_next HBX.out hbw)
  have HC : RowKit.Hid (∀ j l', j < m → (W.getD j ([], 0)).1 = l' → wo.cell? ⟨g, 2 * j, none⟩ = some (.string (bs l'))) := Lib.hid (fun j l' hj hl' => by
   obtain ⟨g', e, c, -⟩ := HCW.out j (by rw [HLn.out]; exact hj)
   injection e with e
   injection e with e
   subst e
   rw [hl', Nat.mul_comm] at c
   exact cell_later hbw c)
  clear hc1 hf1 hbw c0 hbc hb1
  generalize kindL l0 = K at *
  by_cases hK : K = 0
  ·subst hK
   have HR : RowKit.Hid (R = (noEv, false, 5)) := Lib.hid (by rw [HF.out]; rfl)
   clear HF
   have hR := HR.out
   clear HR
   subst hR
   have hbf := HBW.out
   have hrg := range_ev wo w.heap.size 0 0 0 0 { data := #[] } { data := #[] } (TR.out)
   go_wp21
   refine bodyPost_ret (ret_ev noEv _ _ _ hrg rfl rfl rfl) rfl ⟨rfl, ?_⟩
   (repeat' (first | (with_reducible exact Below.refl _ _) | (with_reducible assumption) | (refine below_next ?_ (by with_reducible assumption)) | (with_reducible refine Below.setCell ?_ ?_ _) | (with_reducible refine Below.alloc ?_ ?_ _) | (with_reducible refine Below.drew ?_) | (with_reducible refine below_drewN ?_ _) | omega | (simp; done) | (simp; omega)))
  ·have hk0 : (K == 0) = false := beq_eq_false_iff_ne.2 hK
   have hkd : decide (K ≠ 0) = true := decide_eq_true hK
   rw [hkd] at HF
   clear hK hkd
   rcases long_cases K with ⟨rfl, hlg⟩ | ⟨rfl, hlg⟩ | ⟨hk2, hk3, hlg⟩
   ·rw [hlg] at HF
    clear hlg
    by_cases hm4 : m = 4
    ·subst hm4
     cases hN1 : nameL l1 with
     | false =>
      rw [hN1] at HF HN1
      clear hN1
      have HR : RowKit.Hid (R = (noEv, false, 5)) := Lib.hid (by rw [HF.out]; rfl)
      clear HF
      have hR := HR.out
      clear HR
      subst hR
      have d1 := HC.out 1 l1 (by omega) HL1.out
      simp only [Nat.reduceMul] at d1
      go_wp2_with fail
      refine (HN1.out _).mono ?_
      rintro e w2 ⟨rfl, hbw2⟩
      obtain ⟨hc2, hf2⟩ := bcell hbw2
      have TR2 := there_later TR.out hbw2
      have hz2 : w.heap.size + 1 < w2.heap.size := by have := hbw2.size; omega
      have hz2a : w.heap.size < w2.heap.size := by omega
      have hgz2 : g < w2.heap.size := by have := hbw2.size; omega
      have hbf := below_next HBW.out hbw2
      have hrg := range_ev w2 w.heap.size 0 0 0 0 { data := #[] } { data := #[] } (TR2)
      go_wp21
      refine bodyPost_ret (ret_ev noEv _ _ _ hrg rfl rfl rfl) rfl ⟨rfl, ?_⟩
      (repeat' (first | (with_reducible exact Below.refl _ _) | (with_reducible assumption) | (refine below_next ?_ (by with_reducible assumption)) | (with_reducible refine Below.setCell ?_ ?_ _) | (with_reducible refine Below.alloc ?_ ?_ _) | (with_reducible refine Below.drew ?_) | (with_reducible refine below_drewN ?_ _) | omega | (simp; done) | (simp; omega)))
     | true =>
      cases hN2 : nameL l2 with
      | false =>
       rw [hN1] at HF HN1
       rw [hN2] at HF HN2
       clear hN1 hN2
       have HR : RowKit.Hid (R = (noEv, false, 5)) := Lib.hid (by rw [HF.out]; rfl)
       clear HF
       have hR := HR.out
       clear HR
       subst hR
       have d1 := HC.out 1 l1 (by omega) HL1.out
       simp only [Nat.reduceMul] at d1
       go_wp2_with fail
       refine (HN1.out _).mono ?_
       rintro e w2 ⟨rfl, hbw2⟩
       obtain ⟨hc2, hf2⟩ := bcell hbw2
       have TR2 := there_later TR.out hbw2
       have hz2 : w.heap.size + 1 < w2.heap.size := by have := hbw2.size; omega
       have hz2a : w.heap.size < w2.heap.size := by omega
       have hgz2 : g < w2.heap.size := by have := hbw2.size; omega
       have d2 := HC.out 2 l2 (by omega) HL2.out
       simp only [Nat.reduceMul] at d2
       have TA2 := there_past TR2 (.cells #[.int .i64 2, .string (bs l1), .string { data := #[] }, .int .i64 0, .int .i64 0, .int .i64 0] 123)
       go_wp2_with fail
       refine (HN2.out _).mono ?_
       rintro e w3 ⟨rfl, hbw3⟩
       obtain ⟨hc3, hf3⟩ := bcell hbw3
       have TR3 := there_later TA2 hbw3
       have hz3 := hbw3.size
       simp at hz3
       have hz3a : w.heap.size < w3.heap.size := by omega
       have hz3b : w.heap.size + 1 < w3.heap.size := by omega
       have hz3c : w2.heap.size < w3.heap.size := by omega
       have hgz3 : g < w3.heap.size := by omega
       have hb23 : Below w2.heap.size w2 w3 := by
        have hA := (Below.refl w2.heap.size w2).alloc (Nat.le_refl _) (.cells #[.int .i64 2, .string (bs l1), .string { data := #[] }, .int .i64 0, .int .i64 0, .int .i64 0] 123)
        exact below_next hA hbw3
       have hbw3' := below_next (below_next HBW.out hbw2) hb23
       have hbf := hbw3'
       have hrg := range_ev w3 w.heap.size 0 0 0 0 { data := #[] } { data := #[] } (TR3)
       go_wp21
       refine bodyPost_ret (ret_ev noEv _ _ _ hrg rfl rfl rfl) rfl ⟨rfl, ?_⟩
       (repeat' (first | (with_reducible exact Below.refl _ _) | (with_reducible assumption) | (refine below_next ?_ (by with_reducible assumption)) | (with_reducible refine Below.setCell ?_ ?_ _) | (with_reducible refine Below.alloc ?_ ?_ _) | (with_reducible refine Below.drew ?_) | (with_reducible refine below_drewN ?_ _) | omega | (simp; done) | (simp; omega)))
      | true =>
       rw [hN1] at HF HN1
       rw [hN2] at HF HN2
       clear hN1 hN2
       rcases valued_cases 2 l1 l2 l3 with ⟨a, b, c, hp, hcc, hve⟩ | ⟨b, h3, hp, hve⟩ | ⟨b, h3, hp, hve⟩ | ⟨a, b, hp, hk, hve⟩ | ⟨a, b, h3, hp, ha0, ha2, hve⟩
       ·have hcd : decide (c = 0) = false := by simpa using hcc
        have HV := Lib.hid (HVv.out a b c hp)
        rw [hve] at HF
        clear hp hve HVv
        have HR : RowKit.Hid (R = (noEv, false, c)) := Lib.hid (by rw [HF.out]; simp only [hcd]; rfl)
        clear HF
        have hR := HR.out
        clear HR
        subst hR
        clear hcd
        have d1 := HC.out 1 l1 (by omega) HL1.out
        simp only [Nat.reduceMul] at d1
        go_wp2_with fail
        refine (HN1.out _).mono ?_
        rintro e w2 ⟨rfl, hbw2⟩
        obtain ⟨hc2, hf2⟩ := bcell hbw2
        have TR2 := there_later TR.out hbw2
        have hz2 : w.heap.size + 1 < w2.heap.size := by have := hbw2.size; omega
        have hz2a : w.heap.size < w2.heap.size := by omega
        have hgz2 : g < w2.heap.size := by have := hbw2.size; omega
        have d2 := HC.out 2 l2 (by omega) HL2.out
        simp only [Nat.reduceMul] at d2
        have d3 := HC.out 3 l3 (by omega) HL3.out
        simp only [Nat.reduceMul] at d3
        have TA2 := there_past TR2 (.cells #[.int .i64 2, .string (bs l1), .string { data := #[] }, .int .i64 0, .int .i64 0, .int .i64 0] 123)
        go_wp2_with fail
        refine (HN2.out _).mono ?_
        rintro e w3 ⟨rfl, hbw3⟩
        obtain ⟨hc3, hf3⟩ := bcell hbw3
        have TR3 := there_later TA2 hbw3
        have hz3 := hbw3.size
        simp at hz3
        have hz3a : w.heap.size < w3.heap.size := by omega
        have hz3b : w.heap.size + 1 < w3.heap.size := by omega
        have hz3c : w2.heap.size < w3.heap.size := by omega
        have hgz3 : g < w3.heap.size := by omega
        have hb23 : Below w2.heap.size w2 w3 := by
         have hA := (Below.refl w2.heap.size w2).alloc (Nat.le_refl _) (.cells #[.int .i64 2, .string (bs l1), .string { data := #[] }, .int .i64 0, .int .i64 0, .int .i64 0] 123)
         exact below_next hA hbw3
        have hbw3' := below_next (below_next HBW.out hbw2) hb23
        go_wp2_with fail
        refine (HV.out _).mono ?_
        rintro e w4 ⟨rfl, hbw4⟩
        obtain ⟨hc4, hf4⟩ := bcell hbw4
        have TR4 := there_later TR3 hbw4
        have hz4 := hbw4.size
        have hz4a : w.heap.size < w4.heap.size := by omega
        have hz4b : w.heap.size + 1 < w4.heap.size := by omega
        have hz4c : w2.heap.size < w4.heap.size := by omega
        have hgz4 : g < w4.heap.size := by omega
        have hbw4' := below_next hbw3' hbw4
        have hb24 := below_next hb23 hbw4
        have hbf := hbw4'
        have hrg := World.rangeAt_alloc (range_ev w4 w.heap.size 0 0 0 0 { data := #[] } { data := #[] } TR4) (.cells #[.int .i64 a, .int .i64 b] 49)
        go_wp21
        refine bodyPost_ret (ret_ev noEv _ _ _ hrg rfl rfl rfl) rfl ⟨rfl, ?_⟩
        (repeat' (first | (with_reducible exact Below.refl _ _) | (with_reducible assumption) | (refine below_next ?_ (by with_reducible assumption)) | (with_reducible refine Below.setCell ?_ ?_ _) | (with_reducible refine Below.alloc ?_ ?_ _) | (with_reducible refine Below.drew ?_) | (with_reducible refine below_drewN ?_ _) | omega | (simp; done) | (simp; omega)))
       ·exact absurd h3 (by decide)
       ·exact absurd h3 (by decide)
       ·clear hk
        have HV := Lib.hid (HVv.out a b 0 hp)
        rw [hve] at HF
        clear hp hve HVv
        have HR : RowKit.Hid (R = ((2, l1, l2, a, b, 0), true, 0)) := Lib.hid (by rw [HF.out]; rfl)
        clear HF
        have hR := HR.out
        clear HR
        subst hR
        have d1 := HC.out 1 l1 (by omega) HL1.out
        simp only [Nat.reduceMul] at d1
        go_wp2_with fail
        refine (HN1.out _).mono ?_
        rintro e w2 ⟨rfl, hbw2⟩
        obtain ⟨hc2, hf2⟩ := bcell hbw2
        have TR2 := there_later TR.out hbw2
        have hz2 : w.heap.size + 1 < w2.heap.size := by have := hbw2.size; omega
        have hz2a : w.heap.size < w2.heap.size := by omega
        have hgz2 : g < w2.heap.size := by have := hbw2.size; omega
        have d2 := HC.out 2 l2 (by omega) HL2.out
        simp only [Nat.reduceMul] at d2
        have d3 := HC.out 3 l3 (by omega) HL3.out
        simp only [Nat.reduceMul] at d3
        have TA2 := there_past TR2 (.cells #[.int .i64 2, .string (bs l1), .string { data := #[] }, .int .i64 0, .int .i64 0, .int .i64 0] 123)
        go_wp2_with fail
        refine (HN2.out _).mono ?_
        rintro e w3 ⟨rfl, hbw3⟩
        obtain ⟨hc3, hf3⟩ := bcell hbw3
        have TR3 := there_later TA2 hbw3
        have hz3 := hbw3.size
        simp at hz3
        have hz3a : w.heap.size < w3.heap.size := by omega
        have hz3b : w.heap.size + 1 < w3.heap.size := by omega
        have hz3c : w2.heap.size < w3.heap.size := by omega
        have hgz3 : g < w3.heap.size := by omega
        have hb23 : Below w2.heap.size w2 w3 := by
         have hA := (Below.refl w2.heap.size w2).alloc (Nat.le_refl _) (.cells #[.int .i64 2, .string (bs l1), .string { data := #[] }, .int .i64 0, .int .i64 0, .int .i64 0] 123)
         exact below_next hA hbw3
        have hbw3' := below_next (below_next HBW.out hbw2) hb23
        go_wp2_with fail
        refine (HV.out _).mono ?_
        rintro e w4 ⟨rfl, hbw4⟩
        obtain ⟨hc4, hf4⟩ := bcell hbw4
        have TR4 := there_later TR3 hbw4
        have hz4 := hbw4.size
        have hz4a : w.heap.size < w4.heap.size := by omega
        have hz4b : w.heap.size + 1 < w4.heap.size := by omega
        have hz4c : w2.heap.size < w4.heap.size := by omega
        have hgz4 : g < w4.heap.size := by omega
        have hbw4' := below_next hbw3' hbw4
        have hb24 := below_next hb23 hbw4
        go_upto_region 31 with fail
        go_cut [7] (fun s7 wx => s7 = .int .i64 0 ∧ wx.rangeAt w2.heap.size 0 [.int .i64 2, .string (bs l1), .string (bs l2), .int .i64 a, .int .i64 b, .int .i64 0] ∧ Below w2.heap.size w2 wx)
        case first =>
         have hA4 := (Below.refl w4.heap.size w4).alloc (Nat.le_refl _) (.cells #[.int .i64 a, .int .i64 b] 49)
         have hb2W := below_next hb24 hA4
         have hbkW : Below (w2.alloc (.cells #[.int .i64 2, .string (bs l1), .string { data := #[] }, .int .i64 0, .int .i64 0, .int .i64 0] 123)).heap.size (w2.alloc (.cells #[.int .i64 2, .string (bs l1), .string { data := #[] }, .int .i64 0, .int .i64 0, .int .i64 0] 123)) (w4.alloc (.cells #[.int .i64 a, .int .i64 b] 49)) := below_next (below_next hbw3 hbw4) hA4
         have hrT : (w2.alloc (.cells #[.int .i64 2, .string (bs l1), .string { data := #[] }, .int .i64 0, .int .i64 0, .int .i64 0] 123)).heap[w2.heap.size]? = some (.cells #[.int .i64 2, .string (bs l1), .string { data := #[] }, .int .i64 0, .int .i64 0, .int .i64 0] 123 (0, 0)) := heap_alloc_new w2 _
         have hrW := (hbkW.block w2.heap.size (by simp)).trans hrT
         have hv0 : (w4.alloc (.cells #[.int .i64 a, .int .i64 b] 49)).cell? ⟨w4.heap.size, 0, none⟩ = some (.int .i64 a) := by rw [cell_of_row _ w4.heap.size 0 _ _ (0, 0) (heap_alloc_new w4 _)]; rfl
         have hv1 : (w4.alloc (.cells #[.int .i64 a, .int .i64 b] 49)).cell? ⟨w4.heap.size, 1, none⟩ = some (.int .i64 b) := by rw [cell_of_row _ w4.heap.size 1 _ _ (0, 0) (heap_alloc_new w4 _)]; rfl
         have hg4 : (w4.alloc (.cells #[.int .i64 a, .int .i64 b] 49)).cell? ⟨g, 4, none⟩ = some (.string (bs l2)) := cell_later hA4 (cell_later hbw4 (cell_later hb23 (cell_later hbw2 d2)))
         have hne1 : w4.heap.size < (w4.alloc (.cells #[.int .i64 a, .int .i64 b] 49)).heap.size := by simp
         clear hc2 hf2 hc3 hf3 hc4 hf4 hcw hfw
         generalize (w4.alloc (.cells #[.int .i64 a, .int .i64 b] 49)) = W at *
         have e2 : W.cell? ⟨w2.heap.size, 2, none⟩ = some (.string { data := #[] }) := by rw [cell_of_row _ _ 2 _ _ (0, 0) hrW]; rfl
         have e3 : W.cell? ⟨w2.heap.size, 3, none⟩ = some (.int .i64 0) := by rw [cell_of_row _ _ 3 _ _ (0, 0) hrW]; rfl
         have e4 : W.cell? ⟨w2.heap.size, 4, none⟩ = some (.int .i64 0) := by rw [cell_of_row _ _ 4 _ _ (0, 0) hrW]; rfl
         have y2 := free_blk hrW 2
         have y3 := free_blk hrW 3
         have y4 := free_blk hrW 4
         have RG : RowKit.Hid (∀ u2 u3 u4, (((W.setCell ⟨w2.heap.size, 2, none⟩ u2).setCell ⟨w2.heap.size, 3, none⟩ u3).setCell ⟨w2.heap.size, 4, none⟩ u4).rangeAt w2.heap.size 0 [.int .i64 2, .string (bs l1), u2, u3, u4, .int .i64 0]) := Lib.hid (range_patch hrW)
         have HS : RowKit.Hid (∀ w', Below W.heap.size W w' → (w'.cell? ⟨g, 4, none⟩ = some (.string (bs l2)) ∧ w'.cell? ⟨w4.heap.size, 0, none⟩ = some (.int .i64 a) ∧ w'.cell? ⟨w4.heap.size, 1, none⟩ = some (.int .i64 b))) := Lib.hid (fun w' hb => ⟨cell_later hb hg4, cell_later hb hv0, cell_later hb hv1⟩)
         clear hrW hrT hbkW hA4
         refine wp_region_late (fun w' => w'.cell? ⟨g, 4, none⟩ = some (.string (bs l2)) ∧ w'.cell? ⟨w4.heap.size, 0, none⟩ = some (.int .i64 a) ∧ w'.cell? ⟨w4.heap.size, 1, none⟩ = some (.int .i64 b)) [8] (by kernel_rfl) ?_
         have hB0 : Below (W).heap.size (W) (W).drew := Below.drew (Below.refl _ _)
         have hS0 := HS.out _ hB0
         refine wpAnyL_take 0 9 (v := ?_) rfl (by kernel_rfl) (by kernel_rfl) (by kernel_rfl) (by kernel_rfl) (by kernel_rfl) (fun _ _ _ h => h) (Or.inl ⟨by rfl, ?_⟩) hS0 ?_
         rotate_left
         ·intro w' hw';(try dsimp only at hw');go_simp;try with_reducible rfl
         try simp only [Act.put, sq]
         refine wpAnyL_take 1 9 (v := ?_) rfl (by kernel_rfl) (by kernel_rfl) (by kernel_rfl) (by kernel_rfl) (by kernel_rfl) (fun _ _ _ h => h) (Or.inl ⟨by rfl, ?_⟩) hS0 ?_
         rotate_left
         ·intro w' hw';(try dsimp only at hw');go_simp;try with_reducible rfl
         try simp only [Act.put, sq]
         refine wpAnyL_take 2 9 (v := ?_) rfl (by kernel_rfl) (by kernel_rfl) (by kernel_rfl) (by kernel_rfl) (by kernel_rfl) (fun _ _ _ h => h) (Or.inl ⟨by rfl, ?_⟩) hS0 ?_
         rotate_left
         ·intro w' hw';(try dsimp only at hw');go_simp;try with_reducible rfl
         try simp only [Act.put, sq]
         refine wpAnyL_take 3 9 (v := ?_) rfl (by kernel_rfl) (by kernel_rfl) (by kernel_rfl) (by kernel_rfl) (by kernel_rfl) (fun _ _ _ h => h) (Or.inl ⟨by rfl, ?_⟩) hS0 ?_
         rotate_left
         ·intro w' hw';(try dsimp only at hw');go_simp;try with_reducible rfl
         try simp only [Act.put, sq]
         refine wpAnyL_take 4 9 (v := ?_) rfl (by kernel_rfl) (by kernel_rfl) (by kernel_rfl) (by kernel_rfl) (by kernel_rfl) (fun _ _ _ h => h) (Or.inl ⟨by rfl, ?_⟩) hS0 ?_
         rotate_left
         ·intro w' hw';(try dsimp only at hw');go_simp;try with_reducible rfl
         try simp only [Act.put, sq]
         refine wpAnyL_one 5 rfl (by kernel_rfl) (fun K hK => ?_)
         go_simp
         refine hK.out _ _ (fun _ => hS0) ?_
         clear hK K
         try simp only [Act.put, sq]
         refine wpAnyL_one 6 rfl (by kernel_rfl) (fun K hK => ?_)
         go_simp
         have hS1 : ((W.drew).setCell ⟨w2.heap.size, 2, none⟩ (.string (bs l2))).cell? ⟨g, 4, none⟩ = some (.string (bs l2)) ∧ ((W.drew).setCell ⟨w2.heap.size, 2, none⟩ (.string (bs l2))).cell? ⟨w4.heap.size, 0, none⟩ = some (.int .i64 a) ∧ ((W.drew).setCell ⟨w2.heap.size, 2, none⟩ (.string (bs l2))).cell? ⟨w4.heap.size, 1, none⟩ = some (.int .i64 b) := by
          refine ⟨?_, ?_, ?_⟩
          ·rw [cell_far _ _ _ _ (by simp; omega)]; exact hS0.1
          ·rw [cell_far _ _ _ _ (by simp; omega)]; exact hS0.2.1
          ·rw [cell_far _ _ _ _ (by simp; omega)]; exact hS0.2.2
         refine hK.out _ _ (fun _ => hS1) ?_
         clear hK K
         try simp only [Act.put, sq]
         refine wpAnyL_one 7 rfl (by kernel_rfl) (fun K hK => ?_)
         go_simp
         refine hK.out _ _ (fun _ => hS1) ?_
         clear hK K
         try simp only [Act.put, sq]
         refine wpAnyL_one 8 rfl (by kernel_rfl) (fun K hK => ?_)
         go_simp
         refine hK.out _ _ (fun h => absurd h (by decide)) ?_
         clear hK K
         try simp only [Act.put, sq]
         refine wpAnyL_done (by kernel_rfl) ?_ _
         try simp only [Act.put, sq]
         go_wp2_with fail
         go_meet
         exact ⟨rfl, RG.out _ _ _, by
          have h9 := hb2W
          (repeat' (first | (with_reducible exact Below.refl _ _) | (with_reducible assumption) | (refine below_next ?_ (by with_reducible assumption)) | (with_reducible refine Below.setCell ?_ ?_ _) | (with_reducible refine Below.alloc ?_ ?_ _) | (with_reducible refine Below.drew ?_) | (with_reducible refine below_drewN ?_ _) | omega | (simp; done) | (simp; omega)))⟩
        case rest =>
         obtain ⟨rfl, hr9, hbx⟩ := hcut
         have f0 := hr9 0 _ rfl
         have f1 := hr9 1 _ rfl
         have f2 := hr9 2 _ rfl
         have f3 := hr9 3 _ rfl
         have f4 := hr9 4 _ rfl
         have f5 := hr9 5 _ rfl
         simp only [Nat.zero_add] at f0 f1 f2 f3 f4 f5
         obtain ⟨hcx, hfx⟩ := bcell hbx
         have hbf := below_next (below_next HBW.out hbw2) hbx
         have hrg := range_ev wc w.heap.size 2 a b 0 (bs l1) (bs l2) (there_later TR2 hbx)
         clear hr9 hbx hc3 hf3 hc4 hf4
         go_wp21
         refine bodyPost_ret (ret_ev (2, l1, l2, a, b, 0) _ _ _ hrg rfl rfl rfl) rfl ⟨rfl, ?_⟩
         (repeat' (first | (with_reducible exact Below.refl _ _) | (with_reducible assumption) | (refine below_next ?_ (by with_reducible assumption)) | (with_reducible refine Below.setCell ?_ ?_ _) | (with_reducible refine Below.alloc ?_ ?_ _) | (with_reducible refine Below.drew ?_) | (with_reducible refine below_drewN ?_ _) | omega | (simp; done) | (simp; omega)))
       ·exact absurd h3 (by decide)
    ·have hmd : decide (m = 4) = false := decide_eq_false hm4
     have hmn : ((m : Int) != 4) = true := by simp; omega
     have HR : RowKit.Hid (R = (noEv, false, 5)) := Lib.hid (by rw [HF.out]; simp only [if_true, hmd, Bool.false_and, Bool.and_false])
     clear HF
     have hR := HR.out
     clear HR hm4 hmd
     subst hR
     have hbf := HBW.out
     have hrg := range_ev wo w.heap.size 0 0 0 0 { data := #[] } { data := #[] } (TR.out)
     go_wp21
     refine bodyPost_ret (ret_ev noEv _ _ _ hrg rfl rfl rfl) rfl ⟨rfl, ?_⟩
     (repeat' (first | (with_reducible exact Below.refl _ _) | (with_reducible assumption) | (refine below_next ?_ (by with_reducible assumption)) | (with_reducible refine Below.setCell ?_ ?_ _) | (with_reducible refine Below.alloc ?_ ?_ _) | (with_reducible refine Below.drew ?_) | (with_reducible refine below_drewN ?_ _) | omega | (simp; done) | (simp; omega)))
   ·rw [hlg] at HF
    clear hlg
    by_cases hm4 : m = 4
    ·subst hm4
     cases hN1 : nameL l1 with
     | false =>
      rw [hN1] at HF HN1
      clear hN1
      have HR : RowKit.Hid (R = (noEv, false, 5)) := Lib.hid (by rw [HF.out]; rfl)
      clear HF
      have hR := HR.out
      clear HR
      subst hR
      have d1 := HC.out 1 l1 (by omega) HL1.out
      simp only [Nat.reduceMul] at d1
      go_wp2_with fail
      refine (HN1.out _).mono ?_
      rintro e w2 ⟨rfl, hbw2⟩
      obtain ⟨hc2, hf2⟩ := bcell hbw2
      have TR2 := there_later TR.out hbw2
      have hz2 : w.heap.size + 1 < w2.heap.size := by have := hbw2.size; omega
      have hz2a : w.heap.size < w2.heap.size := by omega
      have hgz2 : g < w2.heap.size := by have := hbw2.size; omega
      have hbf := below_next HBW.out hbw2
      have hrg := range_ev w2 w.heap.size 0 0 0 0 { data := #[] } { data := #[] } (TR2)
      go_wp21
      refine bodyPost_ret (ret_ev noEv _ _ _ hrg rfl rfl rfl) rfl ⟨rfl, ?_⟩
      (repeat' (first | (with_reducible exact Below.refl _ _) | (with_reducible assumption) | (refine below_next ?_ (by with_reducible assumption)) | (with_reducible refine Below.setCell ?_ ?_ _) | (with_reducible refine Below.alloc ?_ ?_ _) | (with_reducible refine Below.drew ?_) | (with_reducible refine below_drewN ?_ _) | omega | (simp; done) | (simp; omega)))
     | true =>
      cases hN2 : nameL l2 with
      | false =>
       rw [hN1] at HF HN1
       rw [hN2] at HF HN2
       clear hN1 hN2
       have HR : RowKit.Hid (R = (noEv, false, 5)) := Lib.hid (by rw [HF.out]; rfl)
       clear HF
       have hR := HR.out
       clear HR
       subst hR
       have d1 := HC.out 1 l1 (by omega) HL1.out
       simp only [Nat.reduceMul] at d1
       go_wp2_with fail
       refine (HN1.out _).mono ?_
       rintro e w2 ⟨rfl, hbw2⟩
       obtain ⟨hc2, hf2⟩ := bcell hbw2
       have TR2 := there_later TR.out hbw2
       have hz2 : w.heap.size + 1 < w2.heap.size := by have := hbw2.size; omega
       have hz2a : w.heap.size < w2.heap.size := by omega
       have hgz2 : g < w2.heap.size := by have := hbw2.size; omega
       have d2 := HC.out 2 l2 (by omega) HL2.out
       simp only [Nat.reduceMul] at d2
       have TA2 := there_past TR2 (.cells #[.int .i64 3, .string (bs l1), .string { data := #[] }, .int .i64 0, .int .i64 0, .int .i64 0] 123)
       go_wp2_with fail
       refine (HN2.out _).mono ?_
       rintro e w3 ⟨rfl, hbw3⟩
       obtain ⟨hc3, hf3⟩ := bcell hbw3
       have TR3 := there_later TA2 hbw3
       have hz3 := hbw3.size
       simp at hz3
       have hz3a : w.heap.size < w3.heap.size := by omega
       have hz3b : w.heap.size + 1 < w3.heap.size := by omega
       have hz3c : w2.heap.size < w3.heap.size := by omega
       have hgz3 : g < w3.heap.size := by omega
       have hb23 : Below w2.heap.size w2 w3 := by
        have hA := (Below.refl w2.heap.size w2).alloc (Nat.le_refl _) (.cells #[.int .i64 3, .string (bs l1), .string { data := #[] }, .int .i64 0, .int .i64 0, .int .i64 0] 123)
        exact below_next hA hbw3
       have hbw3' := below_next (below_next HBW.out hbw2) hb23
       have hbf := hbw3'
       have hrg := range_ev w3 w.heap.size 0 0 0 0 { data := #[] } { data := #[] } (TR3)
       go_wp21
       refine bodyPost_ret (ret_ev noEv _ _ _ hrg rfl rfl rfl) rfl ⟨rfl, ?_⟩
       (repeat' (first | (with_reducible exact Below.refl _ _) | (with_reducible assumption) | (refine below_next ?_ (by with_reducible assumption)) | (with_reducible refine Below.setCell ?_ ?_ _) | (with_reducible refine Below.alloc ?_ ?_ _) | (with_reducible refine Below.drew ?_) | (with_reducible refine below_drewN ?_ _) | omega | (simp; done) | (simp; omega)))
      | true =>
       rw [hN1] at HF HN1
       rw [hN2] at HF HN2
       clear hN1 hN2
       rcases valued_cases 3 l1 l2 l3 with ⟨a, b, c, hp, hcc, hve⟩ | ⟨b, h3, hp, hve⟩ | ⟨b, h3, hp, hve⟩ | ⟨a, b, hp, hk, hve⟩ | ⟨a, b, h3, hp, ha0, ha2, hve⟩
       ·have hcd : decide (c = 0) = false := by simpa using hcc
        have HV := Lib.hid (HVv.out a b c hp)
        rw [hve] at HF
        clear hp hve HVv
        have HR : RowKit.Hid (R = (noEv, false, c)) := Lib.hid (by rw [HF.out]; simp only [hcd]; rfl)
        clear HF
        have hR := HR.out
        clear HR
        subst hR
        clear hcd
        have d1 := HC.out 1 l1 (by omega) HL1.out
        simp only [Nat.reduceMul] at d1
        go_wp2_with fail
        refine (HN1.out _).mono ?_
        rintro e w2 ⟨rfl, hbw2⟩
        obtain ⟨hc2, hf2⟩ := bcell hbw2
        have TR2 := there_later TR.out hbw2
        have hz2 : w.heap.size + 1 < w2.heap.size := by have := hbw2.size; omega
        have hz2a : w.heap.size < w2.heap.size := by omega
        have hgz2 : g < w2.heap.size := by have := hbw2.size; omega
        have d2 := HC.out 2 l2 (by omega) HL2.out
        simp only [Nat.reduceMul] at d2
        have d3 := HC.out 3 l3 (by omega) HL3.out
        simp only [Nat.reduceMul] at d3
        have TA2 := there_past TR2 (.cells #[.int .i64 3, .string (bs l1), .string { data := #[] }, .int .i64 0, .int .i64 0, .int .i64 0] 123)
        go_wp2_with fail
        refine (HN2.out _).mono ?_
        rintro e w3 ⟨rfl, hbw3⟩
        obtain ⟨hc3, hf3⟩ := bcell hbw3
        have TR3 := there_later TA2 hbw3
        have hz3 := hbw3.size
        simp at hz3
        have hz3a : w.heap.size < w3.heap.size := by omega
        have hz3b : w.heap.size + 1 < w3.heap.size := by omega
        have hz3c : w2.heap.size < w3.heap.size := by omega
        have hgz3 : g < w3.heap.size := by omega
        have hb23 : Below w2.heap.size w2 w3 := by
         have hA := (Below.refl w2.heap.size w2).alloc (Nat.le_refl _) (.cells #[.int .i64 3, .string (bs l1), .string { data := #[] }, .int .i64 0, .int .i64 0, .int .i64 0] 123)
         exact below_next hA hbw3
        have hbw3' := below_next (below_next HBW.out hbw2) hb23
        go_wp2_with fail
        refine (HV.out _).mono ?_
        rintro e w4 ⟨rfl, hbw4⟩
        obtain ⟨hc4, hf4⟩ := bcell hbw4
        have TR4 := there_later TR3 hbw4
        have hz4 := hbw4.size
        have hz4a : w.heap.size < w4.heap.size := by omega
        have hz4b : w.heap.size + 1 < w4.heap.size := by omega
        have hz4c : w2.heap.size < w4.heap.size := by omega
        have hgz4 : g < w4.heap.size := by omega
        have hbw4' := below_next hbw3' hbw4
        have hb24 := below_next hb23 hbw4
        have hbf := hbw4'
        have hrg := World.rangeAt_alloc (range_ev w4 w.heap.size 0 0 0 0 { data := #[] } { data := #[] } TR4) (.cells #[.int .i64 a, .int .i64 b] 49)
        go_wp21
        refine bodyPost_ret (ret_ev noEv _ _ _ hrg rfl rfl rfl) rfl ⟨rfl, ?_⟩
        (repeat' (first | (with_reducible exact Below.refl _ _) | (with_reducible assumption) | (refine below_next ?_ (by with_reducible assumption)) | (with_reducible refine Below.setCell ?_ ?_ _) | (with_reducible refine Below.alloc ?_ ?_ _) | (with_reducible refine Below.drew ?_) | (with_reducible refine below_drewN ?_ _) | omega | (simp; done) | (simp; omega)))
       ·clear h3
        have HV := Lib.hid (HVv.out 0 b 0 hp)
        rw [hve] at HF
        clear hp hve HVv
        have HR : RowKit.Hid (R = (noEv, false, 11)) := Lib.hid (by rw [HF.out]; rfl)
        clear HF
        have hR := HR.out
        clear HR
        subst hR
        have d1 := HC.out 1 l1 (by omega) HL1.out
        simp only [Nat.reduceMul] at d1
        go_wp2_with fail
        refine (HN1.out _).mono ?_
        rintro e w2 ⟨rfl, hbw2⟩
        obtain ⟨hc2, hf2⟩ := bcell hbw2
        have TR2 := there_later TR.out hbw2
        have hz2 : w.heap.size + 1 < w2.heap.size := by have := hbw2.size; omega
        have hz2a : w.heap.size < w2.heap.size := by omega
        have hgz2 : g < w2.heap.size := by have := hbw2.size; omega
        have d2 := HC.out 2 l2 (by omega) HL2.out
        simp only [Nat.reduceMul] at d2
        have d3 := HC.out 3 l3 (by omega) HL3.out
        simp only [Nat.reduceMul] at d3
        have TA2 := there_past TR2 (.cells #[.int .i64 3, .string (bs l1), .string { data := #[] }, .int .i64 0, .int .i64 0, .int .i64 0] 123)
        go_wp2_with fail
        refine (HN2.out _).mono ?_
        rintro e w3 ⟨rfl, hbw3⟩
        obtain ⟨hc3, hf3⟩ := bcell hbw3
        have TR3 := there_later TA2 hbw3
        have hz3 := hbw3.size
        simp at hz3
        have hz3a : w.heap.size < w3.heap.size := by omega
        have hz3b : w.heap.size + 1 < w3.heap.size := by omega
        have hz3c : w2.heap.size < w3.heap.size := by omega
        have hgz3 : g < w3.heap.size := by omega
        have hb23 : Below w2.heap.size w2 w3 := by
         have hA := (Below.refl w2.heap.size w2).alloc (Nat.le_refl _) (.cells #[.int .i64 3, .string (bs l1), .string { data := #[] }, .int .i64 0, .int .i64 0, .int .i64 0] 123)
         exact below_next hA hbw3
        have hbw3' := below_next (below_next HBW.out hbw2) hb23
        go_wp2_with fail
        refine (HV.out _).mono ?_
        rintro e w4 ⟨rfl, hbw4⟩
        obtain ⟨hc4, hf4⟩ := bcell hbw4
        have TR4 := there_later TR3 hbw4
        have hz4 := hbw4.size
        have hz4a : w.heap.size < w4.heap.size := by omega
        have hz4b : w.heap.size + 1 < w4.heap.size := by omega
        have hz4c : w2.heap.size < w4.heap.size := by omega
        have hgz4 : g < w4.heap.size := by omega
        have hbw4' := below_next hbw3' hbw4
        have hb24 := below_next hb23 hbw4
        have hbf := hbw4'
        have hrg := World.rangeAt_alloc (range_ev w4 w.heap.size 0 0 0 0 { data := #[] } { data := #[] } TR4) (.cells #[.int .i64 0, .int .i64 b] 49)
        go_wp21
        refine bodyPost_ret (ret_ev noEv _ _ _ hrg rfl rfl rfl) rfl ⟨rfl, ?_⟩
        (repeat' (first | (with_reducible exact Below.refl _ _) | (with_reducible assumption) | (refine below_next ?_ (by with_reducible assumption)) | (with_reducible refine Below.setCell ?_ ?_ _) | (with_reducible refine Below.alloc ?_ ?_ _) | (with_reducible refine Below.drew ?_) | (with_reducible refine below_drewN ?_ _) | omega | (simp; done) | (simp; omega)))
       ·clear h3
        have HV := Lib.hid (HVv.out 2 b 0 hp)
        rw [hve] at HF
        clear hp hve HVv
        have HR : RowKit.Hid (R = (noEv, false, 5)) := Lib.hid (by rw [HF.out]; rfl)
        clear HF
        have hR := HR.out
        clear HR
        subst hR
        have d1 := HC.out 1 l1 (by omega) HL1.out
        simp only [Nat.reduceMul] at d1
        go_wp2_with fail
        refine (HN1.out _).mono ?_
        rintro e w2 ⟨rfl, hbw2⟩
        obtain ⟨hc2, hf2⟩ := bcell hbw2
        have TR2 := there_later TR.out hbw2
        have hz2 : w.heap.size + 1 < w2.heap.size := by have := hbw2.size; omega
        have hz2a : w.heap.size < w2.heap.size := by omega
        have hgz2 : g < w2.heap.size := by have := hbw2.size; omega
        have d2 := HC.out 2 l2 (by omega) HL2.out
        simp only [Nat.reduceMul] at d2
        have d3 := HC.out 3 l3 (by omega) HL3.out
        simp only [Nat.reduceMul] at d3
        have TA2 := there_past TR2 (.cells #[.int .i64 3, .string (bs l1), .string { data := #[] }, .int .i64 0, .int .i64 0, .int .i64 0] 123)
        go_wp2_with fail
        refine (HN2.out _).mono ?_
        rintro e w3 ⟨rfl, hbw3⟩
        obtain ⟨hc3, hf3⟩ := bcell hbw3
        have TR3 := there_later TA2 hbw3
        have hz3 := hbw3.size
        simp at hz3
        have hz3a : w.heap.size < w3.heap.size := by omega
        have hz3b : w.heap.size + 1 < w3.heap.size := by omega
        have hz3c : w2.heap.size < w3.heap.size := by omega
        have hgz3 : g < w3.heap.size := by omega
        have hb23 : Below w2.heap.size w2 w3 := by
         have hA := (Below.refl w2.heap.size w2).alloc (Nat.le_refl _) (.cells #[.int .i64 3, .string (bs l1), .string { data := #[] }, .int .i64 0, .int .i64 0, .int .i64 0] 123)
         exact below_next hA hbw3
        have hbw3' := below_next (below_next HBW.out hbw2) hb23
        go_wp2_with fail
        refine (HV.out _).mono ?_
        rintro e w4 ⟨rfl, hbw4⟩
        obtain ⟨hc4, hf4⟩ := bcell hbw4
        have TR4 := there_later TR3 hbw4
        have hz4 := hbw4.size
        have hz4a : w.heap.size < w4.heap.size := by omega
        have hz4b : w.heap.size + 1 < w4.heap.size := by omega
        have hz4c : w2.heap.size < w4.heap.size := by omega
        have hgz4 : g < w4.heap.size := by omega
        have hbw4' := below_next hbw3' hbw4
        have hb24 := below_next hb23 hbw4
        have hbf := hbw4'
        have hrg := World.rangeAt_alloc (range_ev w4 w.heap.size 0 0 0 0 { data := #[] } { data := #[] } TR4) (.cells #[.int .i64 2, .int .i64 b] 49)
        go_wp21
        refine bodyPost_ret (ret_ev noEv _ _ _ hrg rfl rfl rfl) rfl ⟨rfl, ?_⟩
        (repeat' (first | (with_reducible exact Below.refl _ _) | (with_reducible assumption) | (refine below_next ?_ (by with_reducible assumption)) | (with_reducible refine Below.setCell ?_ ?_ _) | (with_reducible refine Below.alloc ?_ ?_ _) | (with_reducible refine Below.drew ?_) | (with_reducible refine below_drewN ?_ _) | omega | (simp; done) | (simp; omega)))
       ·exact absurd hk (by decide)
       ·clear h3
        have HV := Lib.hid (HVv.out a b 0 hp)
        rw [hve] at HF
        clear hp hve HVv
        have HR : RowKit.Hid (R = ((3, l1, l2, a, b, 0), true, 0)) := Lib.hid (by rw [HF.out]; rfl)
        clear HF
        have hR := HR.out
        clear HR
        subst hR
        have d1 := HC.out 1 l1 (by omega) HL1.out
        simp only [Nat.reduceMul] at d1
        go_wp2_with fail
        refine (HN1.out _).mono ?_
        rintro e w2 ⟨rfl, hbw2⟩
        obtain ⟨hc2, hf2⟩ := bcell hbw2
        have TR2 := there_later TR.out hbw2
        have hz2 : w.heap.size + 1 < w2.heap.size := by have := hbw2.size; omega
        have hz2a : w.heap.size < w2.heap.size := by omega
        have hgz2 : g < w2.heap.size := by have := hbw2.size; omega
        have d2 := HC.out 2 l2 (by omega) HL2.out
        simp only [Nat.reduceMul] at d2
        have d3 := HC.out 3 l3 (by omega) HL3.out
        simp only [Nat.reduceMul] at d3
        have TA2 := there_past TR2 (.cells #[.int .i64 3, .string (bs l1), .string { data := #[] }, .int .i64 0, .int .i64 0, .int .i64 0] 123)
        go_wp2_with fail
        refine (HN2.out _).mono ?_
        rintro e w3 ⟨rfl, hbw3⟩
        obtain ⟨hc3, hf3⟩ := bcell hbw3
        have TR3 := there_later TA2 hbw3
        have hz3 := hbw3.size
        simp at hz3
        have hz3a : w.heap.size < w3.heap.size := by omega
        have hz3b : w.heap.size + 1 < w3.heap.size := by omega
        have hz3c : w2.heap.size < w3.heap.size := by omega
        have hgz3 : g < w3.heap.size := by omega
        have hb23 : Below w2.heap.size w2 w3 := by
         have hA := (Below.refl w2.heap.size w2).alloc (Nat.le_refl _) (.cells #[.int .i64 3, .string (bs l1), .string { data := #[] }, .int .i64 0, .int .i64 0, .int .i64 0] 123)
         exact below_next hA hbw3
        have hbw3' := below_next (below_next HBW.out hbw2) hb23
        go_wp2_with fail
        refine (HV.out _).mono ?_
        rintro e w4 ⟨rfl, hbw4⟩
        obtain ⟨hc4, hf4⟩ := bcell hbw4
        have TR4 := there_later TR3 hbw4
        have hz4 := hbw4.size
        have hz4a : w.heap.size < w4.heap.size := by omega
        have hz4b : w.heap.size + 1 < w4.heap.size := by omega
        have hz4c : w2.heap.size < w4.heap.size := by omega
        have hgz4 : g < w4.heap.size := by omega
        have hbw4' := below_next hbw3' hbw4
        have hb24 := below_next hb23 hbw4
        go_upto_region 31 with fail
        go_cut [7] (fun s7 wx => s7 = .int .i64 0 ∧ wx.rangeAt w2.heap.size 0 [.int .i64 3, .string (bs l1), .string (bs l2), .int .i64 a, .int .i64 b, .int .i64 0] ∧ Below w2.heap.size w2 wx)
        case first =>
         have hA4 := (Below.refl w4.heap.size w4).alloc (Nat.le_refl _) (.cells #[.int .i64 a, .int .i64 b] 49)
         have hb2W := below_next hb24 hA4
         have hbkW : Below (w2.alloc (.cells #[.int .i64 3, .string (bs l1), .string { data := #[] }, .int .i64 0, .int .i64 0, .int .i64 0] 123)).heap.size (w2.alloc (.cells #[.int .i64 3, .string (bs l1), .string { data := #[] }, .int .i64 0, .int .i64 0, .int .i64 0] 123)) (w4.alloc (.cells #[.int .i64 a, .int .i64 b] 49)) := below_next (below_next hbw3 hbw4) hA4
         have hrT : (w2.alloc (.cells #[.int .i64 3, .string (bs l1), .string { data := #[] }, .int .i64 0, .int .i64 0, .int .i64 0] 123)).heap[w2.heap.size]? = some (.cells #[.int .i64 3, .string (bs l1), .string { data := #[] }, .int .i64 0, .int .i64 0, .int .i64 0] 123 (0, 0)) := heap_alloc_new w2 _
         have hrW := (hbkW.block w2.heap.size (by simp)).trans hrT
         have hv0 : (w4.alloc (.cells #[.int .i64 a, .int .i64 b] 49)).cell? ⟨w4.heap.size, 0, none⟩ = some (.int .i64 a) := by rw [cell_of_row _ w4.heap.size 0 _ _ (0, 0) (heap_alloc_new w4 _)]; rfl
         have hv1 : (w4.alloc (.cells #[.int .i64 a, .int .i64 b] 49)).cell? ⟨w4.heap.size, 1, none⟩ = some (.int .i64 b) := by rw [cell_of_row _ w4.heap.size 1 _ _ (0, 0) (heap_alloc_new w4 _)]; rfl
         have hg4 : (w4.alloc (.cells #[.int .i64 a, .int .i64 b] 49)).cell? ⟨g, 4, none⟩ = some (.string (bs l2)) := cell_later hA4 (cell_later hbw4 (cell_later hb23 (cell_later hbw2 d2)))
         have hne1 : w4.heap.size < (w4.alloc (.cells #[.int .i64 a, .int .i64 b] 49)).heap.size := by simp
         clear hc2 hf2 hc3 hf3 hc4 hf4 hcw hfw
         generalize (w4.alloc (.cells #[.int .i64 a, .int .i64 b] 49)) = W at *
         have e2 : W.cell? ⟨w2.heap.size, 2, none⟩ = some (.string { data := #[] }) := by rw [cell_of_row _ _ 2 _ _ (0, 0) hrW]; rfl
         have e3 : W.cell? ⟨w2.heap.size, 3, none⟩ = some (.int .i64 0) := by rw [cell_of_row _ _ 3 _ _ (0, 0) hrW]; rfl
         have e4 : W.cell? ⟨w2.heap.size, 4, none⟩ = some (.int .i64 0) := by rw [cell_of_row _ _ 4 _ _ (0, 0) hrW]; rfl
         have y2 := free_blk hrW 2
         have y3 := free_blk hrW 3
         have y4 := free_blk hrW 4
         have RG : RowKit.Hid (∀ u2 u3 u4, (((W.setCell ⟨w2.heap.size, 2, none⟩ u2).setCell ⟨w2.heap.size, 3, none⟩ u3).setCell ⟨w2.heap.size, 4, none⟩ u4).rangeAt w2.heap.size 0 [.int .i64 3, .string (bs l1), u2, u3, u4, .int .i64 0]) := Lib.hid (range_patch hrW)
         have HS : RowKit.Hid (∀ w', Below W.heap.size W w' → (w'.cell? ⟨g, 4, none⟩ = some (.string (bs l2)) ∧ w'.cell? ⟨w4.heap.size, 0, none⟩ = some (.int .i64 a) ∧ w'.cell? ⟨w4.heap.size, 1, none⟩ = some (.int .i64 b))) := Lib.hid (fun w' hb => ⟨cell_later hb hg4, cell_later hb hv0, cell_later hb hv1⟩)
         clear hrW hrT hbkW hA4
         refine wp_region_late (fun w' => w'.cell? ⟨g, 4, none⟩ = some (.string (bs l2)) ∧ w'.cell? ⟨w4.heap.size, 0, none⟩ = some (.int .i64 a) ∧ w'.cell? ⟨w4.heap.size, 1, none⟩ = some (.int .i64 b)) [8] (by kernel_rfl) ?_
         have hB0 : Below (W).heap.size (W) (W).drew := Below.drew (Below.refl _ _)
         have hS0 := HS.out _ hB0
         refine wpAnyL_take 0 9 (v := ?_) rfl (by kernel_rfl) (by kernel_rfl) (by kernel_rfl) (by kernel_rfl) (by kernel_rfl) (fun _ _ _ h => h) (Or.inl ⟨by rfl, ?_⟩) hS0 ?_
         rotate_left
         ·intro w' hw';(try dsimp only at hw');go_simp;try with_reducible rfl
         try simp only [Act.put, sq]
         refine wpAnyL_take 1 9 (v := ?_) rfl (by kernel_rfl) (by kernel_rfl) (by kernel_rfl) (by kernel_rfl) (by kernel_rfl) (fun _ _ _ h => h) (Or.inl ⟨by rfl, ?_⟩) hS0 ?_
         rotate_left
         ·intro w' hw';(try dsimp only at hw');go_simp;try with_reducible rfl
         try simp only [Act.put, sq]
         refine wpAnyL_take 2 9 (v := ?_) rfl (by kernel_rfl) (by kernel_rfl) (by kernel_rfl) (by kernel_rfl) (by kernel_rfl) (fun _ _ _ h => h) (Or.inl ⟨by rfl, ?_⟩) hS0 ?_
         rotate_left
         ·intro w' hw';(try dsimp only at hw');go_simp;try with_reducible rfl
         try simp only [Act.put, sq]
         refine wpAnyL_take 3 9 (v := ?_) rfl (by kernel_rfl) (by kernel_rfl) (by kernel_rfl) (by kernel_rfl) (by kernel_rfl) (fun _ _ _ h => h) (Or.inl ⟨by rfl, ?_⟩) hS0 ?_
         rotate_left
         ·intro w' hw';(try dsimp only at hw');go_simp;try with_reducible rfl
         try simp only [Act.put, sq]
         refine wpAnyL_take 4 9 (v := ?_) rfl (by kernel_rfl) (by kernel_rfl) (by kernel_rfl) (by kernel_rfl) (by kernel_rfl) (fun _ _ _ h => h) (Or.inl ⟨by rfl, ?_⟩) hS0 ?_
         rotate_left
         ·intro w' hw';(try dsimp only at hw');go_simp;try with_reducible rfl
         try simp only [Act.put, sq]
         refine wpAnyL_one 5 rfl (by kernel_rfl) (fun K hK => ?_)
         go_simp
         refine hK.out _ _ (fun _ => hS0) ?_
         clear hK K
         try simp only [Act.put, sq]
         refine wpAnyL_one 6 rfl (by kernel_rfl) (fun K hK => ?_)
         go_simp
         have hS1 : ((W.drew).setCell ⟨w2.heap.size, 2, none⟩ (.string (bs l2))).cell? ⟨g, 4, none⟩ = some (.string (bs l2)) ∧ ((W.drew).setCell ⟨w2.heap.size, 2, none⟩ (.string (bs l2))).cell? ⟨w4.heap.size, 0, none⟩ = some (.int .i64 a) ∧ ((W.drew).setCell ⟨w2.heap.size, 2, none⟩ (.string (bs l2))).cell? ⟨w4.heap.size, 1, none⟩ = some (.int .i64 b) := by
          refine ⟨?_, ?_, ?_⟩
          ·rw [cell_far _ _ _ _ (by simp; omega)]; exact hS0.1
          ·rw [cell_far _ _ _ _ (by simp; omega)]; exact hS0.2.1
          ·rw [cell_far _ _ _ _ (by simp; omega)]; exact hS0.2.2
         refine hK.out _ _ (fun _ => hS1) ?_
         clear hK K
         try simp only [Act.put, sq]
         refine wpAnyL_one 7 rfl (by kernel_rfl) (fun K hK => ?_)
         go_simp
         refine hK.out _ _ (fun _ => hS1) ?_
         clear hK K
         try simp only [Act.put, sq]
         refine wpAnyL_one 8 rfl (by kernel_rfl) (fun K hK => ?_)
         go_simp
         refine hK.out _ _ (fun h => absurd h (by decide)) ?_
         clear hK K
         try simp only [Act.put, sq]
         refine wpAnyL_done (by kernel_rfl) ?_ _
         try simp only [Act.put, sq]
         go_wp2_with fail
         go_meet
         exact ⟨rfl, RG.out _ _ _, by
          have h9 := hb2W
          (repeat' (first | (with_reducible exact Below.refl _ _) | (with_reducible assumption) | (refine below_next ?_ (by with_reducible assumption)) | (with_reducible refine Below.setCell ?_ ?_ _) | (with_reducible refine Below.alloc ?_ ?_ _) | (with_reducible refine Below.drew ?_) | (with_reducible refine below_drewN ?_ _) | omega | (simp; done) | (simp; omega)))⟩
        case rest =>
         obtain ⟨rfl, hr9, hbx⟩ := hcut
         have f0 := hr9 0 _ rfl
         have f1 := hr9 1 _ rfl
         have f2 := hr9 2 _ rfl
         have f3 := hr9 3 _ rfl
         have f4 := hr9 4 _ rfl
         have f5 := hr9 5 _ rfl
         simp only [Nat.zero_add] at f0 f1 f2 f3 f4 f5
         obtain ⟨hcx, hfx⟩ := bcell hbx
         have hbf := below_next (below_next HBW.out hbw2) hbx
         have hrg := range_ev wc w.heap.size 3 a b 0 (bs l1) (bs l2) (there_later TR2 hbx)
         clear hr9 hbx hc3 hf3 hc4 hf4
         go_wp21
         refine bodyPost_ret (ret_ev (3, l1, l2, a, b, 0) _ _ _ hrg rfl rfl rfl) rfl ⟨rfl, ?_⟩
         (repeat' (first | (with_reducible exact Below.refl _ _) | (with_reducible assumption) | (refine below_next ?_ (by with_reducible assumption)) | (with_reducible refine Below.setCell ?_ ?_ _) | (with_reducible refine Below.alloc ?_ ?_ _) | (with_reducible refine Below.drew ?_) | (with_reducible refine below_drewN ?_ _) | omega | (simp; done) | (simp; omega)))
    ·have hmd : decide (m = 4) = false := decide_eq_false hm4
     have hmn : ((m : Int) != 4) = true := by simp; omega
     have HR : RowKit.Hid (R = (noEv, false, 5)) := Lib.hid (by rw [HF.out]; simp only [if_true, hmd, Bool.false_and, Bool.and_false])
     clear HF
     have hR := HR.out
     clear HR hm4 hmd
     subst hR
     have hbf := HBW.out
     have hrg := range_ev wo w.heap.size 0 0 0 0 { data := #[] } { data := #[] } (TR.out)
     go_wp21
     refine bodyPost_ret (ret_ev noEv _ _ _ hrg rfl rfl rfl) rfl ⟨rfl, ?_⟩
     (repeat' (first | (with_reducible exact Below.refl _ _) | (with_reducible assumption) | (refine below_next ?_ (by with_reducible assumption)) | (with_reducible refine Below.setCell ?_ ?_ _) | (with_reducible refine Below.alloc ?_ ?_ _) | (with_reducible refine Below.drew ?_) | (with_reducible refine below_drewN ?_ _) | omega | (simp; done) | (simp; omega)))
   ·rw [hlg] at HF
    clear hlg
    by_cases hm2 : m = 2
    ·subst hm2
     cases hN1 : nameL l1 with
     | false =>
      rw [hN1] at HF HN1
      clear hN1
      have HR : RowKit.Hid (R = (noEv, false, 5)) := Lib.hid (by rw [HF.out]; rfl)
      clear HF
      have hR := HR.out
      clear HR
      subst hR
      have d1 := HC.out 1 l1 (by omega) HL1.out
      simp only [Nat.reduceMul] at d1
      go_wp2_with fail
      refine (HN1.out _).mono ?_
      rintro e w2 ⟨rfl, hbw2⟩
      obtain ⟨hc2, hf2⟩ := bcell hbw2
      have TR2 := there_later TR.out hbw2
      have hz2 : w.heap.size + 1 < w2.heap.size := by have := hbw2.size; omega
      have hz2a : w.heap.size < w2.heap.size := by omega
      have hgz2 : g < w2.heap.size := by have := hbw2.size; omega
      have hbf := below_next HBW.out hbw2
      have hrg := range_ev w2 w.heap.size 0 0 0 0 { data := #[] } { data := #[] } (TR2)
      go_wp21
      refine bodyPost_ret (ret_ev noEv _ _ _ hrg rfl rfl rfl) rfl ⟨rfl, ?_⟩
      (repeat' (first | (with_reducible exact Below.refl _ _) | (with_reducible assumption) | (refine below_next ?_ (by with_reducible assumption)) | (with_reducible refine Below.setCell ?_ ?_ _) | (with_reducible refine Below.alloc ?_ ?_ _) | (with_reducible refine Below.drew ?_) | (with_reducible refine below_drewN ?_ _) | omega | (simp; done) | (simp; omega)))
     | true =>
      rw [hN1] at HF HN1
      clear hN1
      have HR : RowKit.Hid (R = ((K, l1, [], 0, 0, 0), true, 0)) := Lib.hid (by rw [HF.out]; rfl)
      clear HF
      have hR := HR.out
      clear HR
      subst hR
      have d1 := HC.out 1 l1 (by omega) HL1.out
      simp only [Nat.reduceMul] at d1
      go_wp2_with fail
      refine (HN1.out _).mono ?_
      rintro e w2 ⟨rfl, hbw2⟩
      obtain ⟨hc2, hf2⟩ := bcell hbw2
      have TR2 := there_later TR.out hbw2
      have hz2 : w.heap.size + 1 < w2.heap.size := by have := hbw2.size; omega
      have hz2a : w.heap.size < w2.heap.size := by omega
      have hgz2 : g < w2.heap.size := by have := hbw2.size; omega
      have hbf := below_next HBW.out hbw2
      have hrg := World.rangeAt_alloc (range_ev w2 w.heap.size K 0 0 0 (bs l1) { data := #[] } TR2) (.cells #[.int .i64 K, .string (bs l1), .string { data := #[] }, .int .i64 0, .int .i64 0, .int .i64 0] 123)
      go_wp21
      refine bodyPost_ret (ret_ev (K, l1, [], 0, 0, 0) _ _ _ hrg rfl rfl rfl) rfl ⟨rfl, ?_⟩
      (repeat' (first | (with_reducible exact Below.refl _ _) | (with_reducible assumption) | (refine below_next ?_ (by with_reducible assumption)) | (with_reducible refine Below.setCell ?_ ?_ _) | (with_reducible refine Below.alloc ?_ ?_ _) | (with_reducible refine Below.drew ?_) | (with_reducible refine below_drewN ?_ _) | omega | (simp; done) | (simp; omega)))
    ·have hmd : decide (m = 2) = false := decide_eq_false hm2
     have hmn : ((m : Int) != 2) = true := by simp; omega
     have HR : RowKit.Hid (R = (noEv, false, 5)) := Lib.hid (by rw [HF.out]; simp only [Bool.false_eq_true, if_false, hmd, Bool.false_and, Bool.and_false, if_true])
     clear HF
     have hR := HR.out
     clear HR hm2 hmd
     subst hR
     have hbf := HBW.out
     have hrg := range_ev wo w.heap.size 0 0 0 0 { data := #[] } { data := #[] } (TR.out)
     go_wp21
     refine bodyPost_ret (ret_ev noEv _ _ _ hrg rfl rfl rfl) rfl ⟨rfl, ?_⟩
     (repeat' (first | (with_reducible exact Below.refl _ _) | (with_reducible assumption) | (refine below_next ?_ (by with_reducible assumption)) | (with_reducible refine Below.setCell ?_ ?_ _) | (with_reducible refine Below.alloc ?_ ?_ _) | (with_reducible refine Below.drew ?_) | (with_reducible refine below_drewN ?_ _) | omega | (simp; done) | (simp; omega)))
end
theorem reparse_any (l : List UInt8) (hl : l.length ≤ 1000000) (w : World) :
  Calls Tryz.prog 122 #[.string (bs l)] w fun e w' => e = .returned (.tuple #[evV (parseE l).1, .bool (parseE l).2.1, .int .i64 (parseE l).2.2]) ∧ Below w.heap.size w w' := by
 rcases wordsR_cases l with h | h | ⟨W, hW0, h⟩
 ·exact reparse_early l hl w (.inl h)
 ·exact reparse_early l hl w (.inr h)
 ·exact reparse_words l hl w W h hW0
end Go.Proofs.YtmgchjddpmmglaaGreatDoor
