/-
  The walk of layer 7 (event): what the reference reads a line as. Texts of at most 1,000,000 bytes.
  Layer 8 (log) in plain words: what a text is read as, a log's text, how many events are of a kind; that reading undoes printing; no program in sight. No conditions.
  Blocks of cells known whole: made, kept, stored into; rows of a call's own against them. No conditions.
  The walk of layer 8 (log): what a text is read as. Conditions: unicode/utf8's two tables, and event.words, hold what their initialisers lay, internal/bytealg.MaxLen holds a number; texts of at most 1,000,000 bytes.
  The walk of layer 8 (log): what the reference reads a text as. Texts of at most 1,000,000 bytes.
  Layer 8 (log): are two lists of events the same: the reference's way. No conditions but lengths.
-/
import Derived.Test.YtphhgdgamnogpaaDoorG8e
import Derived.Test.YtphhgdgamnogpaaDoorG8b
import Derived.Test.YtphhgdgamnogpaaDoorG8d
import Derived.Test.YtphhgdgamnogpaaDoorG8c
import Derived.Test.YtphhgdgamnogpaaDoorG8a
import Derived.Laws.OwnMore
import Derived.BigQuiet
namespace Go.Proofs.YtphhgdgamnogpaaDoor
open Go.RowKit Go.Lib

section
attribute [local go_sem ↓] store_ev storeVar_ev load_ev loadVar_ev there_set'
set_option maxRecDepth 100000 in
set_option maxHeartbeats 4000000 in
theorem reparse_early (l : List UInt8) (hl : l.length ≤ 1000000) (w : World) (h1 : wordsR l = ([], 5) ∨ wordsR l = ([], 0)) :
    Calls Tryd.prog 68 #[.string (bs l)] w fun e w' => e = .returned (.tuple #[evV (parseE l).1, .bool (parseE l).2.1, .int .i64 (parseE l).2.2]) ∧ Below w.heap.size w w' := by
  have HW := Lib.hid (fun w' => rwords_any l hl w')
  have T0 := Lib.hid (there_new w 37 (.int .i64 0) (.string { data := #[] }) (.string { data := #[] }) (.int .i64 0) (.int .i64 0) (.int .i64 0))
  rcases h1 with h | h
  · rw [parse_err l h]
    rw [h] at HW
    clear h
    go_enter Tryd.func68, Tryd.ntmps68
    go_wp2_with fail
    refine (HW.out _).mono ?_
    rintro e w1 ⟨v, rfl, hw1, hb1⟩
    obtain ⟨p, cap, rfl, hcw, -⟩ := hw1
    have T1 := there_later (there_past T0.out _) hb1
    obtain ⟨hc1, hf1⟩ := bcell hb1
    have hz1 := hb1.size
    simp at hz1
    have hl0 : w.heap.size < w1.heap.size := by omega
    have hl1 : w.heap.size + 1 < w1.heap.size := by omega
    have hbx1 : Below w.heap.size w w1 := (by (repeat' (first | (with_reducible exact Below.refl _ _) | (with_reducible assumption) | (refine below_next ?_ (by with_reducible assumption)) | (with_reducible refine Below.setCell ?_ ?_ _) | (with_reducible refine Below.alloc ?_ ?_ _) | (with_reducible refine Below.drew ?_) | (with_reducible refine below_drewN ?_ _) | omega | (simp; done) | (simp; omega))))
    have s0 : (w1.cell? ⟨w.heap.size, 0, none⟩).isSome = true := by have h9 := (T1 0 (by omega)).1; simpa only [Nat.zero_add] using h9
    have y0 : (w1.frozen? ⟨w.heap.size, 0, none⟩) = false := by have h9 := (T1 0 (by omega)).2; simpa only [Nat.zero_add] using h9
    have s1 : (w1.cell? ⟨w.heap.size, 1, none⟩).isSome = true := by have h9 := (T1 1 (by omega)).1; simpa only [Nat.zero_add] using h9
    have y1 : (w1.frozen? ⟨w.heap.size, 1, none⟩) = false := by have h9 := (T1 1 (by omega)).2; simpa only [Nat.zero_add] using h9
    have s2 : (w1.cell? ⟨w.heap.size, 2, none⟩).isSome = true := by have h9 := (T1 2 (by omega)).1; simpa only [Nat.zero_add] using h9
    have y2 : (w1.frozen? ⟨w.heap.size, 2, none⟩) = false := by have h9 := (T1 2 (by omega)).2; simpa only [Nat.zero_add] using h9
    have s3 : (w1.cell? ⟨w.heap.size, 3, none⟩).isSome = true := by have h9 := (T1 3 (by omega)).1; simpa only [Nat.zero_add] using h9
    have y3 : (w1.frozen? ⟨w.heap.size, 3, none⟩) = false := by have h9 := (T1 3 (by omega)).2; simpa only [Nat.zero_add] using h9
    have s4 : (w1.cell? ⟨w.heap.size, 4, none⟩).isSome = true := by have h9 := (T1 4 (by omega)).1; simpa only [Nat.zero_add] using h9
    have y4 : (w1.frozen? ⟨w.heap.size, 4, none⟩) = false := by have h9 := (T1 4 (by omega)).2; simpa only [Nat.zero_add] using h9
    have s5 : (w1.cell? ⟨w.heap.size, 5, none⟩).isSome = true := by have h9 := (T1 5 (by omega)).1; simpa only [Nat.zero_add] using h9
    have y5 : (w1.frozen? ⟨w.heap.size, 5, none⟩) = false := by have h9 := (T1 5 (by omega)).2; simpa only [Nat.zero_add] using h9
    go_wp21
    refine bodyPost_ret ?_ rfl ⟨rfl, ?_⟩
    · simp [results, Tryd.results68, go_sem, s0, s1, s2, s3, s4, s5, World.cell?_setCell_same', World.cell?_setCell_other, evV, noEv]
      try rfl
    · (repeat' (first | (with_reducible exact Below.refl _ _) | (with_reducible assumption) | (refine below_next ?_ (by with_reducible assumption)) | (with_reducible refine Below.setCell ?_ ?_ _) | (with_reducible refine Below.alloc ?_ ?_ _) | (with_reducible refine Below.drew ?_) | (with_reducible refine below_drewN ?_ _) | omega | (simp; done) | (simp; omega)))
  · rw [parse_none l h]
    rw [h] at HW
    clear h
    go_enter Tryd.func68, Tryd.ntmps68
    go_wp2_with fail
    refine (HW.out _).mono ?_
    rintro e w1 ⟨v, rfl, hw1, hb1⟩
    obtain ⟨p, cap, rfl, hcw, -⟩ := hw1
    have T1 := there_later (there_past T0.out _) hb1
    obtain ⟨hc1, hf1⟩ := bcell hb1
    have hz1 := hb1.size
    simp at hz1
    have hl0 : w.heap.size < w1.heap.size := by omega
    have hl1 : w.heap.size + 1 < w1.heap.size := by omega
    have hbx1 : Below w.heap.size w w1 := (by (repeat' (first | (with_reducible exact Below.refl _ _) | (with_reducible assumption) | (refine below_next ?_ (by with_reducible assumption)) | (with_reducible refine Below.setCell ?_ ?_ _) | (with_reducible refine Below.alloc ?_ ?_ _) | (with_reducible refine Below.drew ?_) | (with_reducible refine below_drewN ?_ _) | omega | (simp; done) | (simp; omega))))
    have s0 : (w1.cell? ⟨w.heap.size, 0, none⟩).isSome = true := by have h9 := (T1 0 (by omega)).1; simpa only [Nat.zero_add] using h9
    have y0 : (w1.frozen? ⟨w.heap.size, 0, none⟩) = false := by have h9 := (T1 0 (by omega)).2; simpa only [Nat.zero_add] using h9
    have s1 : (w1.cell? ⟨w.heap.size, 1, none⟩).isSome = true := by have h9 := (T1 1 (by omega)).1; simpa only [Nat.zero_add] using h9
    have y1 : (w1.frozen? ⟨w.heap.size, 1, none⟩) = false := by have h9 := (T1 1 (by omega)).2; simpa only [Nat.zero_add] using h9
    have s2 : (w1.cell? ⟨w.heap.size, 2, none⟩).isSome = true := by have h9 := (T1 2 (by omega)).1; simpa only [Nat.zero_add] using h9
    have y2 : (w1.frozen? ⟨w.heap.size, 2, none⟩) = false := by have h9 := (T1 2 (by omega)).2; simpa only [Nat.zero_add] using h9
    have s3 : (w1.cell? ⟨w.heap.size, 3, none⟩).isSome = true := by have h9 := (T1 3 (by omega)).1; simpa only [Nat.zero_add] using h9
    have y3 : (w1.frozen? ⟨w.heap.size, 3, none⟩) = false := by have h9 := (T1 3 (by omega)).2; simpa only [Nat.zero_add] using h9
    have s4 : (w1.cell? ⟨w.heap.size, 4, none⟩).isSome = true := by have h9 := (T1 4 (by omega)).1; simpa only [Nat.zero_add] using h9
    have y4 : (w1.frozen? ⟨w.heap.size, 4, none⟩) = false := by have h9 := (T1 4 (by omega)).2; simpa only [Nat.zero_add] using h9
    have s5 : (w1.cell? ⟨w.heap.size, 5, none⟩).isSome = true := by have h9 := (T1 5 (by omega)).1; simpa only [Nat.zero_add] using h9
    have y5 : (w1.frozen? ⟨w.heap.size, 5, none⟩) = false := by have h9 := (T1 5 (by omega)).2; simpa only [Nat.zero_add] using h9
    go_wp21
    refine bodyPost_ret ?_ rfl ⟨rfl, ?_⟩
    · simp [results, Tryd.results68, go_sem, s0, s1, s2, s3, s4, s5, World.cell?_setCell_same', World.cell?_setCell_other, evV, noEv]
      try rfl
    · (repeat' (first | (with_reducible exact Below.refl _ _) | (with_reducible assumption) | (refine below_next ?_ (by with_reducible assumption)) | (with_reducible refine Below.setCell ?_ ?_ _) | (with_reducible refine Below.alloc ?_ ?_ _) | (with_reducible refine Below.drew ?_) | (with_reducible refine below_drewN ?_ _) | omega | (simp; done) | (simp; omega)))

theorem results_cell3 {fn : Func} {a t : Nat} {u v : Tmp} (h : fn.results = #[.cell a t, .tmp u, .tmp v]) (tmps : Array Value) (P : Program) (w : World) (A : Addr) (x : Value) (ha : tmps.getD a undef = .pointer (some A)) (hl : (loadVar t A).run P w = .ok x w) :
    (results fn tmps).run P w = .ok (.tuple #[x, tmps.getD u undef, tmps.getD v undef]) w := by
  have ha' : tmps[a]?.getD undef = .pointer (some A) := by simpa using ha
  simp [results, h, ha', hl, asAddr]
theorem cell_far (w : World) (a q : Addr) (v : Value) (h : a.block ≠ q.block) : (w.setCell a v).cell? q = w.cell? q :=
  World.cell?_setCell_other w a q v (fun e => h (by rw [e]))
theorem range_patch {W : World} {B : Nat} {t : TypeId} {c0 c1 c2 c3 c4 c5 : Value} (h : W.heap[B]? = some (.cells #[c0, c1, c2, c3, c4, c5] t (0, 0))) (u2 u3 u4 : Value) :
    (((W.setCell ⟨B, 2, none⟩ u2).setCell ⟨B, 3, none⟩ u3).setCell ⟨B, 4, none⟩ u4).rangeAt B 0 [c0, c1, u2, u3, u4, c5] := by
  have e : (((W.setCell ⟨B, 2, none⟩ u2).setCell ⟨B, 3, none⟩ u3).setCell ⟨B, 4, none⟩ u4).heap[B]? = some (.cells #[c0, c1, u2, u3, u4, c5] t (0, 0)) := by
    simp [World.setCell, Array.getElem?_modify, h]
  intro j v hj
  rw [Nat.zero_add, cell_of_row _ B j _ _ (0, 0) e]
  simpa using hj
theorem ret_ev {w : World} {b : Nat} (x : EventM) (tmps : Array Value) (v3 v4 : Value) (h : w.rangeAt b 0 (evc x)) (h2 : tmps.getD 2 undef = .pointer (some ⟨b, 0, none⟩)) (h3 : tmps.getD 3 undef = v3) (h4 : tmps.getD 4 undef = v4) :
    (results Tryd.f68 tmps).run Tryd.prog w = .ok (.tuple #[evV x, v3, v4]) w := by
  have hl := run_loadVar_mid (P := Tryd.prog) w b 0 37 (evc x) _ h Tryd.underlying37 rfl (by kernel_rfl)
  rw [← h3, ← h4]
  exact results_cell3 Tryd.results68 tmps _ w _ _ h2 hl
set_option maxRecDepth 100000 in
set_option maxHeartbeats 16000000 in
theorem reparse_words (l : List UInt8) (hl : l.length ≤ 1000000) (w : World) (W : List (List UInt8 × Nat)) (h : wordsR l = (W, 0)) (hW0 : W ≠ []) :
    Calls Tryd.prog 68 #[.string (bs l)] w fun e w' => e = .returned (.tuple #[evV (parseE l).1, .bool (parseE l).2.1, .int .i64 (parseE l).2.2]) ∧ Below w.heap.size w w' := by
  have HW := Lib.hid (fun w' => rwords_any l hl w')
  have T0 := Lib.hid (there_new w 37 (.int .i64 0) (.string { data := #[] }) (.string { data := #[] }) (.int .i64 0) (.int .i64 0) (.int .i64 0))
  have hle := word_len l
  rw [parse_f l W h hW0]
  rw [h] at HW hle
  have hm0 : 0 < W.length := List.length_pos_iff.2 hW0
  obtain ⟨m, hLn⟩ : ∃ m, W.length = m := ⟨_, rfl⟩
  obtain ⟨l0, hl0'⟩ : ∃ x, (W.getD 0 ([], 0)).1 = x := ⟨_, rfl⟩
  obtain ⟨l1, hl1'⟩ : ∃ x, (W.getD 1 ([], 0)).1 = x := ⟨_, rfl⟩
  obtain ⟨l2, hl2'⟩ : ∃ x, (W.getD 2 ([], 0)).1 = x := ⟨_, rfl⟩
  obtain ⟨l3, hl3'⟩ : ∃ x, (W.getD 3 ([], 0)).1 = x := ⟨_, rfl⟩
  rw [hLn, hl0', hl1', hl2', hl3']
  rw [hLn] at hm0
  have HLn := Lib.hid hLn
  have HL0 := Lib.hid hl0'
  have HL1 := Lib.hid hl1'
  have HL2 := Lib.hid hl2'
  have HL3 := Lib.hid hl3'
  have q1 : l1.length ≤ 1000000 := by rw [← hl1']; exact Nat.le_trans (hle 1) hl
  have q2 : l2.length ≤ 1000000 := by rw [← hl2']; exact Nat.le_trans (hle 2) hl
  have q3 : l3.length ≤ 1000000 := by rw [← hl3']; exact Nat.le_trans (hle 3) hl
  have HN1 := Lib.hid (fun w' => ris_any l1 q1 w')
  have HN2 := Lib.hid (fun w' => ris_any l2 q2 w')
  have HVv := Lib.hid (fun a b c (hp : vParse l3 = (a, b, c)) w' => refvparse_of l3 a b c (by omega) hp w')
  have HF : RowKit.Hid (readF m l0 l1 l2 l3 = if (decide (kindL l0 ≠ 0) && (decide (m = if longK (kindL l0) then 4 else 2) && (nameL l1 && (!longK (kindL l0) || nameL l2)))) = false then (noEv, false, 5) else if longK (kindL l0) then ((valuedE (kindL l0) l1 l2 l3).1, decide ((valuedE (kindL l0) l1 l2 l3).2 = 0), (valuedE (kindL l0) l1 l2 l3).2) else ((kindL l0, l1, [], 0, 0, 0), true, 0)) := Lib.hid rfl
  generalize readF m l0 l1 l2 l3 = R at *
  clear hLn hl0' hl1' hl2' hl3' h hle q1 q2 q3 hl hW0
  go_enter Tryd.func68, Tryd.ntmps68
  go_wp2_with fail
  refine (HW.out _).mono ?_
  rintro e w1 ⟨v, rfl, hw1, hb1⟩
  obtain ⟨p, cap, rfl, hcw, -⟩ := hw1
  have T1 := there_later (there_past T0.out _) hb1
  obtain ⟨hc1, hf1⟩ := bcell hb1
  have hz1 := hb1.size
  simp at hz1
  have hl0 : w.heap.size < w1.heap.size := by omega
  have hl1 : w.heap.size + 1 < w1.heap.size := by omega
  have hbx1 : Below w.heap.size w w1 := (by (repeat' (first | (with_reducible exact Below.refl _ _) | (with_reducible assumption) | (refine below_next ?_ (by with_reducible assumption)) | (with_reducible refine Below.setCell ?_ ?_ _) | (with_reducible refine Below.alloc ?_ ?_ _) | (with_reducible refine Below.drew ?_) | (with_reducible refine below_drewN ?_ _) | omega | (simp; done) | (simp; omega))))
  obtain ⟨g, rfl, c0, -⟩ := hcw 0 (by rw [HLn.out]; omega)
  rw [HL0.out, Nat.zero_mul] at c0
  have hgl : g < w1.heap.size := World.block_lt_of_cell? w1 _ c0
  have HCW := Lib.hid hcw
  have HBX := Lib.hid hbx1
  have TR1 := Lib.hid T1
  rw [HLn.out]
  clear hcw hbx1 T1
  have hmz : ((m : Int) == 0) = false := beq_eq_false_iff_ne.2 (by omega)
  go_upto_block 0 with fail
  go_cut [8] (fun s8 wx => s8 = .int .i64 (kindL l0) ∧ Below w1.heap.size w1 wx)
  case first =>
    go_wp2_with fail
    go_loopw [8, 9] (fun k8 k9 wr => ∃ i : Nat, 1 ≤ i ∧ i ≤ 7 ∧ k9 = .int .i64 i ∧ k8 = .int .i64 (seenK l0 i) ∧ Below w1.heap.size w1 wr) (fun _ k9 _ => 7 - (RowKit.intOf k9).toNat)
    case atStart => exact ⟨1, Nat.le_refl _, by omega, rfl, by rw [seenK_one], Below.refl _ _⟩
    case round =>
      obtain ⟨i, h1i, hi7, rfl, rfl, hbw⟩ := hrel
      have q0 := cell_later hbw c0
      by_cases hlt : i < 7
      · have HS : RowKit.Hid (∀ w', Below wr.heap.size wr w' → (w'.cell? ⟨g, 0, none⟩ = some (.string (bs l0)) ∧ Below wr.heap.size wr w')) := Lib.hid (fun w' hb => ⟨cell_later hb q0, hb⟩)
        go_wp2_with fail
        refine wp_region_late (fun w' => w'.cell? ⟨g, 0, none⟩ = some (.string (bs l0)) ∧ Below wr.heap.size wr w') [] (by kernel_rfl) ?_
        have hB0 : Below (wr).heap.size (wr) (wr).drew := Below.drew (Below.refl _ _)
        have hS0 := HS.out _ hB0
        refine wpAnyL_take 1 9 (v := ?_) rfl (by kernel_rfl) (by kernel_rfl) (by kernel_rfl) (by kernel_rfl) (by kernel_rfl) (fun _ _ _ h => h) (Or.inl ⟨by rfl, ?_⟩) hS0 ?_
        rotate_left
        · intro w' hw'
          try dsimp only at hw'
          go_simp
          try with_reducible rfl
        try simp only [Act.put, List.setIfInBounds_toArray, List.set_cons_zero, List.set_cons_succ]
        refine wpAnyL_take 4 9 (v := ?_) rfl (by kernel_rfl) (by kernel_rfl) (by kernel_rfl) (by kernel_rfl) (by kernel_rfl) (fun _ _ _ h => h) (Or.inl ⟨by rfl, ?_⟩) hS0 ?_
        rotate_left
        · intro w' hw'
          try dsimp only at hw'
          go_simp
          try with_reducible rfl
        try simp only [Act.put, List.setIfInBounds_toArray, List.set_cons_zero, List.set_cons_succ]
        refine wpAnyL_take 5 9 (v := ?_) rfl (by kernel_rfl) (by kernel_rfl) (by kernel_rfl) (by kernel_rfl) (by kernel_rfl) (fun _ _ _ h => h) (Or.inl ⟨by rfl, ?_⟩) hS0 ?_
        rotate_left
        · intro w' hw'
          try dsimp only at hw'
          go_simp
          try with_reducible rfl
        try simp only [Act.put, List.setIfInBounds_toArray, List.set_cons_zero, List.set_cons_succ]
        refine wpAnyL_take 6 9 (v := ?_) rfl (by kernel_rfl) (by kernel_rfl) (by kernel_rfl) (by kernel_rfl) (by kernel_rfl) (fun _ _ _ h => h) (Or.inl ⟨by rfl, ?_⟩) hS0 ?_
        rotate_left
        · intro w' hw'
          try dsimp only at hw'
          go_simp
          try with_reducible rfl
        try simp only [Act.put, List.setIfInBounds_toArray, List.set_cons_zero, List.set_cons_succ]
        refine wpAnyL_take 7 9 (v := ?_) rfl (by kernel_rfl) (by kernel_rfl) (by kernel_rfl) (by kernel_rfl) (by kernel_rfl) (fun _ _ _ h => h) (Or.inl ⟨by rfl, ?_⟩) hS0 ?_
        rotate_left
        · intro w' hw'
          try dsimp only at hw'
          go_simp
          try with_reducible rfl
        try simp only [Act.put, List.setIfInBounds_toArray, List.set_cons_zero, List.set_cons_succ]
        refine wpAnyL_one 0 rfl (by kernel_rfl) (fun K hK => ?_)
        go_simp
        refine (rkinds_any _).mono ?_
        rintro e w2 ⟨rfl, hkc, hgl, hb2⟩
        have hB1 := below_next hB0 hb2
        have hS1 := HS.out _ hB1
        have hkw : w2.cell? ⟨wr.heap.size, i, none⟩ = some (.string (bs (kindW (i : Int)))) := hkc i (by omega)
        have hi0 : (0 : Int) ≤ (i : Int) := by omega
        have hi7 : (i : Int) < 7 := by omega
        refine hK.out _ _ (fun _ => hS1) ?_
        clear hK K hS0
        try simp only [Act.put, List.setIfInBounds_toArray, List.set_cons_zero, List.set_cons_succ]
        refine wpAnyL_one 2 rfl (by kernel_rfl) (fun K hK => ?_)
        go_simp
        refine hK.out _ _ (fun _ => hS1) ?_
        clear hK K
        try simp only [Act.put, List.setIfInBounds_toArray, List.set_cons_zero, List.set_cons_succ]
        refine wpAnyL_one 3 rfl (by kernel_rfl) (fun K hK => ?_)
        go_simp
        refine hK.out _ _ (fun _ => hS1) ?_
        clear hK K
        try simp only [Act.put, List.setIfInBounds_toArray, List.set_cons_zero, List.set_cons_succ]
        refine wpAnyL_one 8 rfl (by kernel_rfl) (fun K hK => ?_)
        go_simp
        refine hK.out _ _ (fun _ => hS1) ?_
        clear hK K
        try simp only [Act.put, List.setIfInBounds_toArray, List.set_cons_zero, List.set_cons_succ]
        refine wpAnyL_done (by kernel_rfl) ?_ _
        try simp only [Act.put, List.setIfInBounds_toArray, List.set_cons_zero, List.set_cons_succ]
        have hbw2 := below_next hbw hB1
        go_wp2_with fail
        · have HH := Lib.hid (seenK_hit l0 i h1i hlt (by rename_i hk; simpa using hk))
          go_roundw
          case rel => exact ⟨i + 1, by omega, by omega, by go_num, by rw [HH.out], hbw2⟩
          case measure => simp [RowKit.intOf]; omega
        · have HH := Lib.hid (seenK_miss l0 i h1i hlt (by rename_i hk; simpa using hk))
          go_roundw
          case rel => exact ⟨i + 1, by omega, by omega, by go_num, by rw [HH.out], hbw2⟩
          case measure => simp [RowKit.intOf]; omega
      · have hi : i = 7 := by omega
        subst hi
        have HE := Lib.hid (seenK_end l0)
        go_wp2_with fail
        go_meet
        exact ⟨by rw [HE.out], hbw⟩
  case rest =>
    obtain ⟨rfl, hbw⟩ := hcut
    obtain ⟨wo, rfl⟩ : ∃ wo : World, wo = wc := ⟨_, rfl⟩
    have hbc := below_next hb1 hbw
    obtain ⟨hcw, hfw⟩ := bcell hbc
    have hzw := hbc.size
    simp at hzw
    have hlw0 : w.heap.size < wo.heap.size := by omega
    have hlw1 : w.heap.size + 1 < wo.heap.size := by omega
    have TR := Lib.hid (there_later TR1.out hbw)
    have hgw : g < wo.heap.size := by have := hbw.size; omega
    have HBW : RowKit.Hid (Below w.heap.size w wo) := Lib.hid (below_next HBX.out hbw)
    have HC : RowKit.Hid (∀ j l', j < m → (W.getD j ([], 0)).1 = l' → wo.cell? ⟨g, 2 * j, none⟩ = some (.string (bs l'))) := Lib.hid (fun j l' hj hl' => by
      obtain ⟨g', e, c, -⟩ := HCW.out j (by rw [HLn.out]; exact hj)
      injection e with e
      injection e with e
      subst e
      rw [hl', Nat.mul_comm] at c
      exact cell_later hbw c)
    clear hc1 hf1 hbw c0 hbc hb1
    generalize kindL l0 = K at *
    by_cases hK : K = 0
    · subst hK
      have HR : RowKit.Hid (R = (noEv, false, 5)) := Lib.hid (by rw [HF.out]; rfl)
      clear HF
      have hR := HR.out
      clear HR
      subst hR
      have hbf := HBW.out
      have hrg := range_ev wo w.heap.size 0 0 0 0 { data := #[] } { data := #[] } (TR.out)
      go_wp21
      refine bodyPost_ret (ret_ev noEv _ _ _ hrg rfl rfl rfl) rfl ⟨rfl, ?_⟩
      (repeat' (first | (with_reducible exact Below.refl _ _) | (with_reducible assumption) | (refine below_next ?_ (by with_reducible assumption)) | (with_reducible refine Below.setCell ?_ ?_ _) | (with_reducible refine Below.alloc ?_ ?_ _) | (with_reducible refine Below.drew ?_) | (with_reducible refine below_drewN ?_ _) | omega | (simp; done) | (simp; omega)))
    · have hk0 : (K == 0) = false := beq_eq_false_iff_ne.2 hK
      have hkd : decide (K ≠ 0) = true := decide_eq_true hK
      rw [hkd] at HF
      clear hK hkd
      rcases long_cases K with ⟨rfl, hlg⟩ | ⟨rfl, hlg⟩ | ⟨hk2, hk3, hlg⟩
      · rw [hlg] at HF
        clear hlg
        by_cases hm4 : m = 4
        · subst hm4
          cases hN1 : nameL l1 with
          | false =>
            rw [hN1] at HF HN1
            clear hN1
            have HR : RowKit.Hid (R = (noEv, false, 5)) := Lib.hid (by rw [HF.out]; rfl)
            clear HF
            have hR := HR.out
            clear HR
            subst hR
            have d1 := HC.out 1 l1 (by omega) HL1.out
            simp only [Nat.reduceMul] at d1
            go_wp2_with fail
            refine (HN1.out _).mono ?_
            rintro e w2 ⟨rfl, hbw2⟩
            obtain ⟨hc2, hf2⟩ := bcell hbw2
            have TR2 := there_later TR.out hbw2
            have hz2 : w.heap.size + 1 < w2.heap.size := by have := hbw2.size; omega
            have hz2a : w.heap.size < w2.heap.size := by omega
            have hgz2 : g < w2.heap.size := by have := hbw2.size; omega
            have hbf := below_next HBW.out hbw2
            have hrg := range_ev w2 w.heap.size 0 0 0 0 { data := #[] } { data := #[] } (TR2)
            go_wp21
            refine bodyPost_ret (ret_ev noEv _ _ _ hrg rfl rfl rfl) rfl ⟨rfl, ?_⟩
            (repeat' (first | (with_reducible exact Below.refl _ _) | (with_reducible assumption) | (refine below_next ?_ (by with_reducible assumption)) | (with_reducible refine Below.setCell ?_ ?_ _) | (with_reducible refine Below.alloc ?_ ?_ _) | (with_reducible refine Below.drew ?_) | (with_reducible refine below_drewN ?_ _) | omega | (simp; done) | (simp; omega)))
          | true =>
            cases hN2 : nameL l2 with
            | false =>
              rw [hN1] at HF HN1
              rw [hN2] at HF HN2
              clear hN1 hN2
              have HR : RowKit.Hid (R = (noEv, false, 5)) := Lib.hid (by rw [HF.out]; rfl)
              clear HF
              have hR := HR.out
              clear HR
              subst hR
              have d1 := HC.out 1 l1 (by omega) HL1.out
              simp only [Nat.reduceMul] at d1
              go_wp2_with fail
              refine (HN1.out _).mono ?_
              rintro e w2 ⟨rfl, hbw2⟩
              obtain ⟨hc2, hf2⟩ := bcell hbw2
              have TR2 := there_later TR.out hbw2
              have hz2 : w.heap.size + 1 < w2.heap.size := by have := hbw2.size; omega
              have hz2a : w.heap.size < w2.heap.size := by omega
              have hgz2 : g < w2.heap.size := by have := hbw2.size; omega
              have d2 := HC.out 2 l2 (by omega) HL2.out
              simp only [Nat.reduceMul] at d2
              have TA2 := there_past TR2 (.cells #[.int .i64 2, .string (bs l1), .string { data := #[] }, .int .i64 0, .int .i64 0, .int .i64 0] 37)
              go_wp2_with fail
              refine (HN2.out _).mono ?_
              rintro e w3 ⟨rfl, hbw3⟩
              obtain ⟨hc3, hf3⟩ := bcell hbw3
              have TR3 := there_later TA2 hbw3
              have hz3 := hbw3.size
              simp at hz3
              have hz3a : w.heap.size < w3.heap.size := by omega
              have hz3b : w.heap.size + 1 < w3.heap.size := by omega
              have hz3c : w2.heap.size < w3.heap.size := by omega
              have hgz3 : g < w3.heap.size := by omega
              have hb23 : Below w2.heap.size w2 w3 := by
                have hA := (Below.refl w2.heap.size w2).alloc (Nat.le_refl _) (.cells #[.int .i64 2, .string (bs l1), .string { data := #[] }, .int .i64 0, .int .i64 0, .int .i64 0] 37)
                exact below_next hA hbw3
              have hbw3' := below_next (below_next HBW.out hbw2) hb23
              have hbf := hbw3'
              have hrg := range_ev w3 w.heap.size 0 0 0 0 { data := #[] } { data := #[] } (TR3)
              go_wp21
              refine bodyPost_ret (ret_ev noEv _ _ _ hrg rfl rfl rfl) rfl ⟨rfl, ?_⟩
              (repeat' (first | (with_reducible exact Below.refl _ _) | (with_reducible assumption) | (refine below_next ?_ (by with_reducible assumption)) | (with_reducible refine Below.setCell ?_ ?_ _) | (with_reducible refine Below.alloc ?_ ?_ _) | (with_reducible refine Below.drew ?_) | (with_reducible refine below_drewN ?_ _) | omega | (simp; done) | (simp; omega)))
            | true =>
              rw [hN1] at HF HN1
              rw [hN2] at HF HN2
              clear hN1 hN2
              rcases valued_cases 2 l1 l2 l3 with ⟨a, b, c, hp, hcc, hve⟩ | ⟨b, h3, hp, hve⟩ | ⟨b, h3, hp, hve⟩ | ⟨a, b, hp, hk, hve⟩ | ⟨a, b, h3, hp, ha0, ha2, hve⟩
              · have hcd : decide (c = 0) = false := by simpa using hcc
                have HV := Lib.hid (HVv.out a b c hp)
                rw [hve] at HF
                clear hp hve HVv
                have HR : RowKit.Hid (R = (noEv, false, c)) := Lib.hid (by rw [HF.out]; simp only [hcd]; rfl)
                clear HF
                have hR := HR.out
                clear HR
                subst hR
                clear hcd
                have d1 := HC.out 1 l1 (by omega) HL1.out
                simp only [Nat.reduceMul] at d1
                go_wp2_with fail
                refine (HN1.out _).mono ?_
                rintro e w2 ⟨rfl, hbw2⟩
                obtain ⟨hc2, hf2⟩ := bcell hbw2
                have TR2 := there_later TR.out hbw2
                have hz2 : w.heap.size + 1 < w2.heap.size := by have := hbw2.size; omega
                have hz2a : w.heap.size < w2.heap.size := by omega
                have hgz2 : g < w2.heap.size := by have := hbw2.size; omega
                have d2 := HC.out 2 l2 (by omega) HL2.out
                simp only [Nat.reduceMul] at d2
                have d3 := HC.out 3 l3 (by omega) HL3.out
                simp only [Nat.reduceMul] at d3
                have TA2 := there_past TR2 (.cells #[.int .i64 2, .string (bs l1), .string { data := #[] }, .int .i64 0, .int .i64 0, .int .i64 0] 37)
                go_wp2_with fail
                refine (HN2.out _).mono ?_
                rintro e w3 ⟨rfl, hbw3⟩
                obtain ⟨hc3, hf3⟩ := bcell hbw3
                have TR3 := there_later TA2 hbw3
                have hz3 := hbw3.size
                simp at hz3
                have hz3a : w.heap.size < w3.heap.size := by omega
                have hz3b : w.heap.size + 1 < w3.heap.size := by omega
                have hz3c : w2.heap.size < w3.heap.size := by omega
                have hgz3 : g < w3.heap.size := by omega
                have hb23 : Below w2.heap.size w2 w3 := by
                  have hA := (Below.refl w2.heap.size w2).alloc (Nat.le_refl _) (.cells #[.int .i64 2, .string (bs l1), .string { data := #[] }, .int .i64 0, .int .i64 0, .int .i64 0] 37)
                  exact below_next hA hbw3
                have hbw3' := below_next (below_next HBW.out hbw2) hb23
                go_wp2_with fail
                refine (HV.out _).mono ?_
                rintro e w4 ⟨rfl, hbw4⟩
                obtain ⟨hc4, hf4⟩ := bcell hbw4
                have TR4 := there_later TR3 hbw4
                have hz4 := hbw4.size
                have hz4a : w.heap.size < w4.heap.size := by omega
                have hz4b : w.heap.size + 1 < w4.heap.size := by omega
                have hz4c : w2.heap.size < w4.heap.size := by omega
                have hgz4 : g < w4.heap.size := by omega
                have hbw4' := below_next hbw3' hbw4
                have hb24 := below_next hb23 hbw4
                have hbf := hbw4'
                have hrg := World.rangeAt_alloc (range_ev w4 w.heap.size 0 0 0 0 { data := #[] } { data := #[] } TR4) (.cells #[.int .i64 a, .int .i64 b] 35)
                go_wp21
                refine bodyPost_ret (ret_ev noEv _ _ _ hrg rfl rfl rfl) rfl ⟨rfl, ?_⟩
                (repeat' (first | (with_reducible exact Below.refl _ _) | (with_reducible assumption) | (refine below_next ?_ (by with_reducible assumption)) | (with_reducible refine Below.setCell ?_ ?_ _) | (with_reducible refine Below.alloc ?_ ?_ _) | (with_reducible refine Below.drew ?_) | (with_reducible refine below_drewN ?_ _) | omega | (simp; done) | (simp; omega)))
              · exact absurd h3 (by decide)
              · exact absurd h3 (by decide)
              · clear hk
                have HV := Lib.hid (HVv.out a b 0 hp)
                rw [hve] at HF
                clear hp hve HVv
                have HR : RowKit.Hid (R = ((2, l1, l2, a, b, 0), true, 0)) := Lib.hid (by rw [HF.out]; rfl)
                clear HF
                have hR := HR.out
                clear HR
                subst hR
                have d1 := HC.out 1 l1 (by omega) HL1.out
                simp only [Nat.reduceMul] at d1
                go_wp2_with fail
                refine (HN1.out _).mono ?_
                rintro e w2 ⟨rfl, hbw2⟩
                obtain ⟨hc2, hf2⟩ := bcell hbw2
                have TR2 := there_later TR.out hbw2
                have hz2 : w.heap.size + 1 < w2.heap.size := by have := hbw2.size; omega
                have hz2a : w.heap.size < w2.heap.size := by omega
                have hgz2 : g < w2.heap.size := by have := hbw2.size; omega
                have d2 := HC.out 2 l2 (by omega) HL2.out
                simp only [Nat.reduceMul] at d2
                have d3 := HC.out 3 l3 (by omega) HL3.out
                simp only [Nat.reduceMul] at d3
                have TA2 := there_past TR2 (.cells #[.int .i64 2, .string (bs l1), .string { data := #[] }, .int .i64 0, .int .i64 0, .int .i64 0] 37)
                go_wp2_with fail
                refine (HN2.out _).mono ?_
                rintro e w3 ⟨rfl, hbw3⟩
                obtain ⟨hc3, hf3⟩ := bcell hbw3
                have TR3 := there_later TA2 hbw3
                have hz3 := hbw3.size
                simp at hz3
                have hz3a : w.heap.size < w3.heap.size := by omega
                have hz3b : w.heap.size + 1 < w3.heap.size := by omega
                have hz3c : w2.heap.size < w3.heap.size := by omega
                have hgz3 : g < w3.heap.size := by omega
                have hb23 : Below w2.heap.size w2 w3 := by
                  have hA := (Below.refl w2.heap.size w2).alloc (Nat.le_refl _) (.cells #[.int .i64 2, .string (bs l1), .string { data := #[] }, .int .i64 0, .int .i64 0, .int .i64 0] 37)
                  exact below_next hA hbw3
                have hbw3' := below_next (below_next HBW.out hbw2) hb23
                go_wp2_with fail
                refine (HV.out _).mono ?_
                rintro e w4 ⟨rfl, hbw4⟩
                obtain ⟨hc4, hf4⟩ := bcell hbw4
                have TR4 := there_later TR3 hbw4
                have hz4 := hbw4.size
                have hz4a : w.heap.size < w4.heap.size := by omega
                have hz4b : w.heap.size + 1 < w4.heap.size := by omega
                have hz4c : w2.heap.size < w4.heap.size := by omega
                have hgz4 : g < w4.heap.size := by omega
                have hbw4' := below_next hbw3' hbw4
                have hb24 := below_next hb23 hbw4
                go_upto_region 31 with fail
                go_cut [7] (fun s7 wx => s7 = .int .i64 0 ∧ wx.rangeAt w2.heap.size 0 [.int .i64 2, .string (bs l1), .string (bs l2), .int .i64 a, .int .i64 b, .int .i64 0] ∧ Below w2.heap.size w2 wx)
                case first =>
                  have hA4 := (Below.refl w4.heap.size w4).alloc (Nat.le_refl _) (.cells #[.int .i64 a, .int .i64 b] 35)
                  have hb2W := below_next hb24 hA4
                  have hbkW : Below (w2.alloc (.cells #[.int .i64 2, .string (bs l1), .string { data := #[] }, .int .i64 0, .int .i64 0, .int .i64 0] 37)).heap.size (w2.alloc (.cells #[.int .i64 2, .string (bs l1), .string { data := #[] }, .int .i64 0, .int .i64 0, .int .i64 0] 37)) (w4.alloc (.cells #[.int .i64 a, .int .i64 b] 35)) := below_next (below_next hbw3 hbw4) hA4
                  have hrT : (w2.alloc (.cells #[.int .i64 2, .string (bs l1), .string { data := #[] }, .int .i64 0, .int .i64 0, .int .i64 0] 37)).heap[w2.heap.size]? = some (.cells #[.int .i64 2, .string (bs l1), .string { data := #[] }, .int .i64 0, .int .i64 0, .int .i64 0] 37 (0, 0)) := heap_alloc_new w2 _
                  have hrW := (hbkW.block w2.heap.size (by simp)).trans hrT
                  have hv0 : (w4.alloc (.cells #[.int .i64 a, .int .i64 b] 35)).cell? ⟨w4.heap.size, 0, none⟩ = some (.int .i64 a) := by rw [cell_of_row _ w4.heap.size 0 _ _ (0, 0) (heap_alloc_new w4 _)]; rfl
                  have hv1 : (w4.alloc (.cells #[.int .i64 a, .int .i64 b] 35)).cell? ⟨w4.heap.size, 1, none⟩ = some (.int .i64 b) := by rw [cell_of_row _ w4.heap.size 1 _ _ (0, 0) (heap_alloc_new w4 _)]; rfl
                  have hg4 : (w4.alloc (.cells #[.int .i64 a, .int .i64 b] 35)).cell? ⟨g, 4, none⟩ = some (.string (bs l2)) := cell_later hA4 (cell_later hbw4 (cell_later hb23 (cell_later hbw2 d2)))
                  have hne1 : w4.heap.size < (w4.alloc (.cells #[.int .i64 a, .int .i64 b] 35)).heap.size := by simp
                  clear hc2 hf2 hc3 hf3 hc4 hf4 hcw hfw
                  generalize (w4.alloc (.cells #[.int .i64 a, .int .i64 b] 35)) = W at *
                  have e2 : W.cell? ⟨w2.heap.size, 2, none⟩ = some (.string { data := #[] }) := by rw [cell_of_row _ _ 2 _ _ (0, 0) hrW]; rfl
                  have e3 : W.cell? ⟨w2.heap.size, 3, none⟩ = some (.int .i64 0) := by rw [cell_of_row _ _ 3 _ _ (0, 0) hrW]; rfl
                  have e4 : W.cell? ⟨w2.heap.size, 4, none⟩ = some (.int .i64 0) := by rw [cell_of_row _ _ 4 _ _ (0, 0) hrW]; rfl
                  have y2 := free_blk hrW 2
                  have y3 := free_blk hrW 3
                  have y4 := free_blk hrW 4
                  have RG : RowKit.Hid (∀ u2 u3 u4, (((W.setCell ⟨w2.heap.size, 2, none⟩ u2).setCell ⟨w2.heap.size, 3, none⟩ u3).setCell ⟨w2.heap.size, 4, none⟩ u4).rangeAt w2.heap.size 0 [.int .i64 2, .string (bs l1), u2, u3, u4, .int .i64 0]) := Lib.hid (range_patch hrW)
                  have HS : RowKit.Hid (∀ w', Below W.heap.size W w' → (w'.cell? ⟨g, 4, none⟩ = some (.string (bs l2)) ∧ w'.cell? ⟨w4.heap.size, 0, none⟩ = some (.int .i64 a) ∧ w'.cell? ⟨w4.heap.size, 1, none⟩ = some (.int .i64 b))) := Lib.hid (fun w' hb => ⟨cell_later hb hg4, cell_later hb hv0, cell_later hb hv1⟩)
                  clear hrW hrT hbkW hA4
                  refine wp_region_late (fun w' => w'.cell? ⟨g, 4, none⟩ = some (.string (bs l2)) ∧ w'.cell? ⟨w4.heap.size, 0, none⟩ = some (.int .i64 a) ∧ w'.cell? ⟨w4.heap.size, 1, none⟩ = some (.int .i64 b)) [8] (by kernel_rfl) ?_
                  have hB0 : Below (W).heap.size (W) (W).drew := Below.drew (Below.refl _ _)
                  have hS0 := HS.out _ hB0
                  refine wpAnyL_take 0 9 (v := ?_) rfl (by kernel_rfl) (by kernel_rfl) (by kernel_rfl) (by kernel_rfl) (by kernel_rfl) (fun _ _ _ h => h) (Or.inl ⟨by rfl, ?_⟩) hS0 ?_
                  rotate_left
                  · intro w' hw'
                    try dsimp only at hw'
                    go_simp
                    try with_reducible rfl
                  try simp only [Act.put, List.setIfInBounds_toArray, List.set_cons_zero, List.set_cons_succ]
                  refine wpAnyL_take 1 9 (v := ?_) rfl (by kernel_rfl) (by kernel_rfl) (by kernel_rfl) (by kernel_rfl) (by kernel_rfl) (fun _ _ _ h => h) (Or.inl ⟨by rfl, ?_⟩) hS0 ?_
                  rotate_left
                  · intro w' hw'
                    try dsimp only at hw'
                    go_simp
                    try with_reducible rfl
                  try simp only [Act.put, List.setIfInBounds_toArray, List.set_cons_zero, List.set_cons_succ]
                  refine wpAnyL_take 2 9 (v := ?_) rfl (by kernel_rfl) (by kernel_rfl) (by kernel_rfl) (by kernel_rfl) (by kernel_rfl) (fun _ _ _ h => h) (Or.inl ⟨by rfl, ?_⟩) hS0 ?_
                  rotate_left
                  · intro w' hw'
                    try dsimp only at hw'
                    go_simp
                    try with_reducible rfl
                  try simp only [Act.put, List.setIfInBounds_toArray, List.set_cons_zero, List.set_cons_succ]
                  refine wpAnyL_take 3 9 (v := ?_) rfl (by kernel_rfl) (by kernel_rfl) (by kernel_rfl) (by kernel_rfl) (by kernel_rfl) (fun _ _ _ h => h) (Or.inl ⟨by rfl, ?_⟩) hS0 ?_
                  rotate_left
                  · intro w' hw'
                    try dsimp only at hw'
                    go_simp
                    try with_reducible rfl
                  try simp only [Act.put, List.setIfInBounds_toArray, List.set_cons_zero, List.set_cons_succ]
                  refine wpAnyL_take 4 9 (v := ?_) rfl (by kernel_rfl) (by kernel_rfl) (by kernel_rfl) (by kernel_rfl) (by kernel_rfl) (fun _ _ _ h => h) (Or.inl ⟨by rfl, ?_⟩) hS0 ?_
                  rotate_left
                  · intro w' hw'
                    try dsimp only at hw'
                    go_simp
                    try with_reducible rfl
                  try simp only [Act.put, List.setIfInBounds_toArray, List.set_cons_zero, List.set_cons_succ]
                  refine wpAnyL_one 5 rfl (by kernel_rfl) (fun K hK => ?_)
                  go_simp
                  refine hK.out _ _ (fun _ => hS0) ?_
                  clear hK K
                  try simp only [Act.put, List.setIfInBounds_toArray, List.set_cons_zero, List.set_cons_succ]
                  refine wpAnyL_one 6 rfl (by kernel_rfl) (fun K hK => ?_)
                  go_simp
                  have hS1 : ((W.drew).setCell ⟨w2.heap.size, 2, none⟩ (.string (bs l2))).cell? ⟨g, 4, none⟩ = some (.string (bs l2)) ∧ ((W.drew).setCell ⟨w2.heap.size, 2, none⟩ (.string (bs l2))).cell? ⟨w4.heap.size, 0, none⟩ = some (.int .i64 a) ∧ ((W.drew).setCell ⟨w2.heap.size, 2, none⟩ (.string (bs l2))).cell? ⟨w4.heap.size, 1, none⟩ = some (.int .i64 b) := by
                    refine ⟨?_, ?_, ?_⟩
                    · rw [cell_far _ _ _ _ (by simp; omega)]; exact hS0.1
                    · rw [cell_far _ _ _ _ (by simp; omega)]; exact hS0.2.1
                    · rw [cell_far _ _ _ _ (by simp; omega)]; exact hS0.2.2
                  refine hK.out _ _ (fun _ => hS1) ?_
                  clear hK K
                  try simp only [Act.put, List.setIfInBounds_toArray, List.set_cons_zero, List.set_cons_succ]
                  refine wpAnyL_one 7 rfl (by kernel_rfl) (fun K hK => ?_)
                  go_simp
                  refine hK.out _ _ (fun _ => hS1) ?_
                  clear hK K
                  try simp only [Act.put, List.setIfInBounds_toArray, List.set_cons_zero, List.set_cons_succ]
                  refine wpAnyL_one 8 rfl (by kernel_rfl) (fun K hK => ?_)
                  go_simp
                  refine hK.out _ _ (fun h => absurd h (by decide)) ?_
                  clear hK K
                  try simp only [Act.put, List.setIfInBounds_toArray, List.set_cons_zero, List.set_cons_succ]
                  refine wpAnyL_done (by kernel_rfl) ?_ _
                  try simp only [Act.put, List.setIfInBounds_toArray, List.set_cons_zero, List.set_cons_succ]
                  go_wp2_with fail
                  go_meet
                  exact ⟨rfl, RG.out _ _ _, by
                    have h9 := hb2W
                    (repeat' (first | (with_reducible exact Below.refl _ _) | (with_reducible assumption) | (refine below_next ?_ (by with_reducible assumption)) | (with_reducible refine Below.setCell ?_ ?_ _) | (with_reducible refine Below.alloc ?_ ?_ _) | (with_reducible refine Below.drew ?_) | (with_reducible refine below_drewN ?_ _) | omega | (simp; done) | (simp; omega)))⟩
                case rest =>
                  obtain ⟨rfl, hr9, hbx⟩ := hcut
                  have f0 := hr9 0 _ rfl
                  have f1 := hr9 1 _ rfl
                  have f2 := hr9 2 _ rfl
                  have f3 := hr9 3 _ rfl
                  have f4 := hr9 4 _ rfl
                  have f5 := hr9 5 _ rfl
                  simp only [Nat.zero_add] at f0 f1 f2 f3 f4 f5
                  obtain ⟨hcx, hfx⟩ := bcell hbx
                  have hbf := below_next (below_next HBW.out hbw2) hbx
                  have hrg := range_ev wc w.heap.size 2 a b 0 (bs l1) (bs l2) (there_later TR2 hbx)
                  clear hr9 hbx hc3 hf3 hc4 hf4
                  go_wp21
                  refine bodyPost_ret (ret_ev (2, l1, l2, a, b, 0) _ _ _ hrg rfl rfl rfl) rfl ⟨rfl, ?_⟩
                  (repeat' (first | (with_reducible exact Below.refl _ _) | (with_reducible assumption) | (refine below_next ?_ (by with_reducible assumption)) | (with_reducible refine Below.setCell ?_ ?_ _) | (with_reducible refine Below.alloc ?_ ?_ _) | (with_reducible refine Below.drew ?_) | (with_reducible refine below_drewN ?_ _) | omega | (simp; done) | (simp; omega)))
              · exact absurd h3 (by decide)
        · have hmd : decide (m = 4) = false := decide_eq_false hm4
          have hmn : ((m : Int) != 4) = true := by simp; omega
          have HR : RowKit.Hid (R = (noEv, false, 5)) := Lib.hid (by rw [HF.out]; simp only [if_true, hmd, Bool.false_and, Bool.and_false])
          clear HF
          have hR := HR.out
          clear HR hm4 hmd
          subst hR
          have hbf := HBW.out
          have hrg := range_ev wo w.heap.size 0 0 0 0 { data := #[] } { data := #[] } (TR.out)
          go_wp21
          refine bodyPost_ret (ret_ev noEv _ _ _ hrg rfl rfl rfl) rfl ⟨rfl, ?_⟩
          (repeat' (first | (with_reducible exact Below.refl _ _) | (with_reducible assumption) | (refine below_next ?_ (by with_reducible assumption)) | (with_reducible refine Below.setCell ?_ ?_ _) | (with_reducible refine Below.alloc ?_ ?_ _) | (with_reducible refine Below.drew ?_) | (with_reducible refine below_drewN ?_ _) | omega | (simp; done) | (simp; omega)))
      · rw [hlg] at HF
        clear hlg
        by_cases hm4 : m = 4
        · subst hm4
          cases hN1 : nameL l1 with
          | false =>
            rw [hN1] at HF HN1
            clear hN1
            have HR : RowKit.Hid (R = (noEv, false, 5)) := Lib.hid (by rw [HF.out]; rfl)
            clear HF
            have hR := HR.out
            clear HR
            subst hR
            have d1 := HC.out 1 l1 (by omega) HL1.out
            simp only [Nat.reduceMul] at d1
            go_wp2_with fail
            refine (HN1.out _).mono ?_
            rintro e w2 ⟨rfl, hbw2⟩
            obtain ⟨hc2, hf2⟩ := bcell hbw2
            have TR2 := there_later TR.out hbw2
            have hz2 : w.heap.size + 1 < w2.heap.size := by have := hbw2.size; omega
            have hz2a : w.heap.size < w2.heap.size := by omega
            have hgz2 : g < w2.heap.size := by have := hbw2.size; omega
            have hbf := below_next HBW.out hbw2
            have hrg := range_ev w2 w.heap.size 0 0 0 0 { data := #[] } { data := #[] } (TR2)
            go_wp21
            refine bodyPost_ret (ret_ev noEv _ _ _ hrg rfl rfl rfl) rfl ⟨rfl, ?_⟩
            (repeat' (first | (with_reducible exact Below.refl _ _) | (with_reducible assumption) | (refine below_next ?_ (by with_reducible assumption)) | (with_reducible refine Below.setCell ?_ ?_ _) | (with_reducible refine Below.alloc ?_ ?_ _) | (with_reducible refine Below.drew ?_) | (with_reducible refine below_drewN ?_ _) | omega | (simp; done) | (simp; omega)))
          | true =>
            cases hN2 : nameL l2 with
            | false =>
              rw [hN1] at HF HN1
              rw [hN2] at HF HN2
              clear hN1 hN2
              have HR : RowKit.Hid (R = (noEv, false, 5)) := Lib.hid (by rw [HF.out]; rfl)
              clear HF
              have hR := HR.out
              clear HR
              subst hR
              have d1 := HC.out 1 l1 (by omega) HL1.out
              simp only [Nat.reduceMul] at d1
              go_wp2_with fail
              refine (HN1.out _).mono ?_
              rintro e w2 ⟨rfl, hbw2⟩
              obtain ⟨hc2, hf2⟩ := bcell hbw2
              have TR2 := there_later TR.out hbw2
              have hz2 : w.heap.size + 1 < w2.heap.size := by have := hbw2.size; omega
              have hz2a : w.heap.size < w2.heap.size := by omega
              have hgz2 : g < w2.heap.size := by have := hbw2.size; omega
              have d2 := HC.out 2 l2 (by omega) HL2.out
              simp only [Nat.reduceMul] at d2
              have TA2 := there_past TR2 (.cells #[.int .i64 3, .string (bs l1), .string { data := #[] }, .int .i64 0, .int .i64 0, .int .i64 0] 37)
              go_wp2_with fail
              refine (HN2.out _).mono ?_
              rintro e w3 ⟨rfl, hbw3⟩
              obtain ⟨hc3, hf3⟩ := bcell hbw3
              have TR3 := there_later TA2 hbw3
              have hz3 := hbw3.size
              simp at hz3
              have hz3a : w.heap.size < w3.heap.size := by omega
              have hz3b : w.heap.size + 1 < w3.heap.size := by omega
              have hz3c : w2.heap.size < w3.heap.size := by omega
              have hgz3 : g < w3.heap.size := by omega
              have hb23 : Below w2.heap.size w2 w3 := by
                have hA := (Below.refl w2.heap.size w2).alloc (Nat.le_refl _) (.cells #[.int .i64 3, .string (bs l1), .string { data := #[] }, .int .i64 0, .int .i64 0, .int .i64 0] 37)
                exact below_next hA hbw3
              have hbw3' := below_next (below_next HBW.out hbw2) hb23
              have hbf := hbw3'
              have hrg := range_ev w3 w.heap.size 0 0 0 0 { data := #[] } { data := #[] } (TR3)
              go_wp21
              refine bodyPost_ret (ret_ev noEv _ _ _ hrg rfl rfl rfl) rfl ⟨rfl, ?_⟩
              (repeat' (first | (with_reducible exact Below.refl _ _) | (with_reducible assumption) | (refine below_next ?_ (by with_reducible assumption)) | (with_reducible refine Below.setCell ?_ ?_ _) | (with_reducible refine Below.alloc ?_ ?_ _) | (with_reducible refine Below.drew ?_) | (with_reducible refine below_drewN ?_ _) | omega | (simp; done) | (simp; omega)))
            | true =>
              rw [hN1] at HF HN1
              rw [hN2] at HF HN2
              clear hN1 hN2
              rcases valued_cases 3 l1 l2 l3 with ⟨a, b, c, hp, hcc, hve⟩ | ⟨b, h3, hp, hve⟩ | ⟨b, h3, hp, hve⟩ | ⟨a, b, hp, hk, hve⟩ | ⟨a, b, h3, hp, ha0, ha2, hve⟩
              · have hcd : decide (c = 0) = false := by simpa using hcc
                have HV := Lib.hid (HVv.out a b c hp)
                rw [hve] at HF
                clear hp hve HVv
                have HR : RowKit.Hid (R = (noEv, false, c)) := Lib.hid (by rw [HF.out]; simp only [hcd]; rfl)
                clear HF
                have hR := HR.out
                clear HR
                subst hR
                clear hcd
                have d1 := HC.out 1 l1 (by omega) HL1.out
                simp only [Nat.reduceMul] at d1
                go_wp2_with fail
                refine (HN1.out _).mono ?_
                rintro e w2 ⟨rfl, hbw2⟩
                obtain ⟨hc2, hf2⟩ := bcell hbw2
                have TR2 := there_later TR.out hbw2
                have hz2 : w.heap.size + 1 < w2.heap.size := by have := hbw2.size; omega
                have hz2a : w.heap.size < w2.heap.size := by omega
                have hgz2 : g < w2.heap.size := by have := hbw2.size; omega
                have d2 := HC.out 2 l2 (by omega) HL2.out
                simp only [Nat.reduceMul] at d2
                have d3 := HC.out 3 l3 (by omega) HL3.out
                simp only [Nat.reduceMul] at d3
                have TA2 := there_past TR2 (.cells #[.int .i64 3, .string (bs l1), .string { data := #[] }, .int .i64 0, .int .i64 0, .int .i64 0] 37)
                go_wp2_with fail
                refine (HN2.out _).mono ?_
                rintro e w3 ⟨rfl, hbw3⟩
                obtain ⟨hc3, hf3⟩ := bcell hbw3
                have TR3 := there_later TA2 hbw3
                have hz3 := hbw3.size
                simp at hz3
                have hz3a : w.heap.size < w3.heap.size := by omega
                have hz3b : w.heap.size + 1 < w3.heap.size := by omega
                have hz3c : w2.heap.size < w3.heap.size := by omega
                have hgz3 : g < w3.heap.size := by omega
                have hb23 : Below w2.heap.size w2 w3 := by
                  have hA := (Below.refl w2.heap.size w2).alloc (Nat.le_refl _) (.cells #[.int .i64 3, .string (bs l1), .string { data := #[] }, .int .i64 0, .int .i64 0, .int .i64 0] 37)
                  exact below_next hA hbw3
                have hbw3' := below_next (below_next HBW.out hbw2) hb23
                go_wp2_with fail
                refine (HV.out _).mono ?_
                rintro e w4 ⟨rfl, hbw4⟩
                obtain ⟨hc4, hf4⟩ := bcell hbw4
                have TR4 := there_later TR3 hbw4
                have hz4 := hbw4.size
                have hz4a : w.heap.size < w4.heap.size := by omega
                have hz4b : w.heap.size + 1 < w4.heap.size := by omega
                have hz4c : w2.heap.size < w4.heap.size := by omega
                have hgz4 : g < w4.heap.size := by omega
                have hbw4' := below_next hbw3' hbw4
                have hb24 := below_next hb23 hbw4
                have hbf := hbw4'
                have hrg := World.rangeAt_alloc (range_ev w4 w.heap.size 0 0 0 0 { data := #[] } { data := #[] } TR4) (.cells #[.int .i64 a, .int .i64 b] 35)
                go_wp21
                refine bodyPost_ret (ret_ev noEv _ _ _ hrg rfl rfl rfl) rfl ⟨rfl, ?_⟩
                (repeat' (first | (with_reducible exact Below.refl _ _) | (with_reducible assumption) | (refine below_next ?_ (by with_reducible assumption)) | (with_reducible refine Below.setCell ?_ ?_ _) | (with_reducible refine Below.alloc ?_ ?_ _) | (with_reducible refine Below.drew ?_) | (with_reducible refine below_drewN ?_ _) | omega | (simp; done) | (simp; omega)))
              · clear h3
                have HV := Lib.hid (HVv.out 0 b 0 hp)
                rw [hve] at HF
                clear hp hve HVv
                have HR : RowKit.Hid (R = (noEv, false, 11)) := Lib.hid (by rw [HF.out]; rfl)
                clear HF
                have hR := HR.out
                clear HR
                subst hR
                have d1 := HC.out 1 l1 (by omega) HL1.out
                simp only [Nat.reduceMul] at d1
                go_wp2_with fail
                refine (HN1.out _).mono ?_
                rintro e w2 ⟨rfl, hbw2⟩
                obtain ⟨hc2, hf2⟩ := bcell hbw2
                have TR2 := there_later TR.out hbw2
                have hz2 : w.heap.size + 1 < w2.heap.size := by have := hbw2.size; omega
                have hz2a : w.heap.size < w2.heap.size := by omega
                have hgz2 : g < w2.heap.size := by have := hbw2.size; omega
                have d2 := HC.out 2 l2 (by omega) HL2.out
                simp only [Nat.reduceMul] at d2
                have d3 := HC.out 3 l3 (by omega) HL3.out
                simp only [Nat.reduceMul] at d3
                have TA2 := there_past TR2 (.cells #[.int .i64 3, .string (bs l1), .string { data := #[] }, .int .i64 0, .int .i64 0, .int .i64 0] 37)
                go_wp2_with fail
                refine (HN2.out _).mono ?_
                rintro e w3 ⟨rfl, hbw3⟩
                obtain ⟨hc3, hf3⟩ := bcell hbw3
                have TR3 := there_later TA2 hbw3
                have hz3 := hbw3.size
                simp at hz3
                have hz3a : w.heap.size < w3.heap.size := by omega
                have hz3b : w.heap.size + 1 < w3.heap.size := by omega
                have hz3c : w2.heap.size < w3.heap.size := by omega
                have hgz3 : g < w3.heap.size := by omega
                have hb23 : Below w2.heap.size w2 w3 := by
                  have hA := (Below.refl w2.heap.size w2).alloc (Nat.le_refl _) (.cells #[.int .i64 3, .string (bs l1), .string { data := #[] }, .int .i64 0, .int .i64 0, .int .i64 0] 37)
                  exact below_next hA hbw3
                have hbw3' := below_next (below_next HBW.out hbw2) hb23
                go_wp2_with fail
                refine (HV.out _).mono ?_
                rintro e w4 ⟨rfl, hbw4⟩
                obtain ⟨hc4, hf4⟩ := bcell hbw4
                have TR4 := there_later TR3 hbw4
                have hz4 := hbw4.size
                have hz4a : w.heap.size < w4.heap.size := by omega
                have hz4b : w.heap.size + 1 < w4.heap.size := by omega
                have hz4c : w2.heap.size < w4.heap.size := by omega
                have hgz4 : g < w4.heap.size := by omega
                have hbw4' := below_next hbw3' hbw4
                have hb24 := below_next hb23 hbw4
                have hbf := hbw4'
                have hrg := World.rangeAt_alloc (range_ev w4 w.heap.size 0 0 0 0 { data := #[] } { data := #[] } TR4) (.cells #[.int .i64 0, .int .i64 b] 35)
                go_wp21
                refine bodyPost_ret (ret_ev noEv _ _ _ hrg rfl rfl rfl) rfl ⟨rfl, ?_⟩
                (repeat' (first | (with_reducible exact Below.refl _ _) | (with_reducible assumption) | (refine below_next ?_ (by with_reducible assumption)) | (with_reducible refine Below.setCell ?_ ?_ _) | (with_reducible refine Below.alloc ?_ ?_ _) | (with_reducible refine Below.drew ?_) | (with_reducible refine below_drewN ?_ _) | omega | (simp; done) | (simp; omega)))
              · clear h3
                have HV := Lib.hid (HVv.out 2 b 0 hp)
                rw [hve] at HF
                clear hp hve HVv
                have HR : RowKit.Hid (R = (noEv, false, 5)) := Lib.hid (by rw [HF.out]; rfl)
                clear HF
                have hR := HR.out
                clear HR
                subst hR
                have d1 := HC.out 1 l1 (by omega) HL1.out
                simp only [Nat.reduceMul] at d1
                go_wp2_with fail
                refine (HN1.out _).mono ?_
                rintro e w2 ⟨rfl, hbw2⟩
                obtain ⟨hc2, hf2⟩ := bcell hbw2
                have TR2 := there_later TR.out hbw2
                have hz2 : w.heap.size + 1 < w2.heap.size := by have := hbw2.size; omega
                have hz2a : w.heap.size < w2.heap.size := by omega
                have hgz2 : g < w2.heap.size := by have := hbw2.size; omega
                have d2 := HC.out 2 l2 (by omega) HL2.out
                simp only [Nat.reduceMul] at d2
                have d3 := HC.out 3 l3 (by omega) HL3.out
                simp only [Nat.reduceMul] at d3
                have TA2 := there_past TR2 (.cells #[.int .i64 3, .string (bs l1), .string { data := #[] }, .int .i64 0, .int .i64 0, .int .i64 0] 37)
                go_wp2_with fail
                refine (HN2.out _).mono ?_
                rintro e w3 ⟨rfl, hbw3⟩
                obtain ⟨hc3, hf3⟩ := bcell hbw3
                have TR3 := there_later TA2 hbw3
                have hz3 := hbw3.size
                simp at hz3
                have hz3a : w.heap.size < w3.heap.size := by omega
                have hz3b : w.heap.size + 1 < w3.heap.size := by omega
                have hz3c : w2.heap.size < w3.heap.size := by omega
                have hgz3 : g < w3.heap.size := by omega
                have hb23 : Below w2.heap.size w2 w3 := by
                  have hA := (Below.refl w2.heap.size w2).alloc (Nat.le_refl _) (.cells #[.int .i64 3, .string (bs l1), .string { data := #[] }, .int .i64 0, .int .i64 0, .int .i64 0] 37)
                  exact below_next hA hbw3
                have hbw3' := below_next (below_next HBW.out hbw2) hb23
                go_wp2_with fail
                refine (HV.out _).mono ?_
                rintro e w4 ⟨rfl, hbw4⟩
                obtain ⟨hc4, hf4⟩ := bcell hbw4
                have TR4 := there_later TR3 hbw4
                have hz4 := hbw4.size
                have hz4a : w.heap.size < w4.heap.size := by omega
                have hz4b : w.heap.size + 1 < w4.heap.size := by omega
                have hz4c : w2.heap.size < w4.heap.size := by omega
                have hgz4 : g < w4.heap.size := by omega
                have hbw4' := below_next hbw3' hbw4
                have hb24 := below_next hb23 hbw4
                have hbf := hbw4'
                have hrg := World.rangeAt_alloc (range_ev w4 w.heap.size 0 0 0 0 { data := #[] } { data := #[] } TR4) (.cells #[.int .i64 2, .int .i64 b] 35)
                go_wp21
                refine bodyPost_ret (ret_ev noEv _ _ _ hrg rfl rfl rfl) rfl ⟨rfl, ?_⟩
                (repeat' (first | (with_reducible exact Below.refl _ _) | (with_reducible assumption) | (refine below_next ?_ (by with_reducible assumption)) | (with_reducible refine Below.setCell ?_ ?_ _) | (with_reducible refine Below.alloc ?_ ?_ _) | (with_reducible refine Below.drew ?_) | (with_reducible refine below_drewN ?_ _) | omega | (simp; done) | (simp; omega)))
              · exact absurd hk (by decide)
              · clear h3
                have HV := Lib.hid (HVv.out a b 0 hp)
                rw [hve] at HF
                clear hp hve HVv
                have HR : RowKit.Hid (R = ((3, l1, l2, a, b, 0), true, 0)) := Lib.hid (by rw [HF.out]; rfl)
                clear HF
                have hR := HR.out
                clear HR
                subst hR
                have d1 := HC.out 1 l1 (by omega) HL1.out
                simp only [Nat.reduceMul] at d1
                go_wp2_with fail
                refine (HN1.out _).mono ?_
                rintro e w2 ⟨rfl, hbw2⟩
                obtain ⟨hc2, hf2⟩ := bcell hbw2
                have TR2 := there_later TR.out hbw2
                have hz2 : w.heap.size + 1 < w2.heap.size := by have := hbw2.size; omega
                have hz2a : w.heap.size < w2.heap.size := by omega
                have hgz2 : g < w2.heap.size := by have := hbw2.size; omega
                have d2 := HC.out 2 l2 (by omega) HL2.out
                simp only [Nat.reduceMul] at d2
                have d3 := HC.out 3 l3 (by omega) HL3.out
                simp only [Nat.reduceMul] at d3
                have TA2 := there_past TR2 (.cells #[.int .i64 3, .string (bs l1), .string { data := #[] }, .int .i64 0, .int .i64 0, .int .i64 0] 37)
                go_wp2_with fail
                refine (HN2.out _).mono ?_
                rintro e w3 ⟨rfl, hbw3⟩
                obtain ⟨hc3, hf3⟩ := bcell hbw3
                have TR3 := there_later TA2 hbw3
                have hz3 := hbw3.size
                simp at hz3
                have hz3a : w.heap.size < w3.heap.size := by omega
                have hz3b : w.heap.size + 1 < w3.heap.size := by omega
                have hz3c : w2.heap.size < w3.heap.size := by omega
                have hgz3 : g < w3.heap.size := by omega
                have hb23 : Below w2.heap.size w2 w3 := by
                  have hA := (Below.refl w2.heap.size w2).alloc (Nat.le_refl _) (.cells #[.int .i64 3, .string (bs l1), .string { data := #[] }, .int .i64 0, .int .i64 0, .int .i64 0] 37)
                  exact below_next hA hbw3
                have hbw3' := below_next (below_next HBW.out hbw2) hb23
                go_wp2_with fail
                refine (HV.out _).mono ?_
                rintro e w4 ⟨rfl, hbw4⟩
                obtain ⟨hc4, hf4⟩ := bcell hbw4
                have TR4 := there_later TR3 hbw4
                have hz4 := hbw4.size
                have hz4a : w.heap.size < w4.heap.size := by omega
                have hz4b : w.heap.size + 1 < w4.heap.size := by omega
                have hz4c : w2.heap.size < w4.heap.size := by omega
                have hgz4 : g < w4.heap.size := by omega
                have hbw4' := below_next hbw3' hbw4
                have hb24 := below_next hb23 hbw4
                go_upto_region 31 with fail
                go_cut [7] (fun s7 wx => s7 = .int .i64 0 ∧ wx.rangeAt w2.heap.size 0 [.int .i64 3, .string (bs l1), .string (bs l2), .int .i64 a, .int .i64 b, .int .i64 0] ∧ Below w2.heap.size w2 wx)
                case first =>
                  have hA4 := (Below.refl w4.heap.size w4).alloc (Nat.le_refl _) (.cells #[.int .i64 a, .int .i64 b] 35)
                  have hb2W := below_next hb24 hA4
                  have hbkW : Below (w2.alloc (.cells #[.int .i64 3, .string (bs l1), .string { data := #[] }, .int .i64 0, .int .i64 0, .int .i64 0] 37)).heap.size (w2.alloc (.cells #[.int .i64 3, .string (bs l1), .string { data := #[] }, .int .i64 0, .int .i64 0, .int .i64 0] 37)) (w4.alloc (.cells #[.int .i64 a, .int .i64 b] 35)) := below_next (below_next hbw3 hbw4) hA4
                  have hrT : (w2.alloc (.cells #[.int .i64 3, .string (bs l1), .string { data := #[] }, .int .i64 0, .int .i64 0, .int .i64 0] 37)).heap[w2.heap.size]? = some (.cells #[.int .i64 3, .string (bs l1), .string { data := #[] }, .int .i64 0, .int .i64 0, .int .i64 0] 37 (0, 0)) := heap_alloc_new w2 _
                  have hrW := (hbkW.block w2.heap.size (by simp)).trans hrT
                  have hv0 : (w4.alloc (.cells #[.int .i64 a, .int .i64 b] 35)).cell? ⟨w4.heap.size, 0, none⟩ = some (.int .i64 a) := by rw [cell_of_row _ w4.heap.size 0 _ _ (0, 0) (heap_alloc_new w4 _)]; rfl
                  have hv1 : (w4.alloc (.cells #[.int .i64 a, .int .i64 b] 35)).cell? ⟨w4.heap.size, 1, none⟩ = some (.int .i64 b) := by rw [cell_of_row _ w4.heap.size 1 _ _ (0, 0) (heap_alloc_new w4 _)]; rfl
                  have hg4 : (w4.alloc (.cells #[.int .i64 a, .int .i64 b] 35)).cell? ⟨g, 4, none⟩ = some (.string (bs l2)) := cell_later hA4 (cell_later hbw4 (cell_later hb23 (cell_later hbw2 d2)))
                  have hne1 : w4.heap.size < (w4.alloc (.cells #[.int .i64 a, .int .i64 b] 35)).heap.size := by simp
                  clear hc2 hf2 hc3 hf3 hc4 hf4 hcw hfw
                  generalize (w4.alloc (.cells #[.int .i64 a, .int .i64 b] 35)) = W at *
                  have e2 : W.cell? ⟨w2.heap.size, 2, none⟩ = some (.string { data := #[] }) := by rw [cell_of_row _ _ 2 _ _ (0, 0) hrW]; rfl
                  have e3 : W.cell? ⟨w2.heap.size, 3, none⟩ = some (.int .i64 0) := by rw [cell_of_row _ _ 3 _ _ (0, 0) hrW]; rfl
                  have e4 : W.cell? ⟨w2.heap.size, 4, none⟩ = some (.int .i64 0) := by rw [cell_of_row _ _ 4 _ _ (0, 0) hrW]; rfl
                  have y2 := free_blk hrW 2
                  have y3 := free_blk hrW 3
                  have y4 := free_blk hrW 4
                  have RG : RowKit.Hid (∀ u2 u3 u4, (((W.setCell ⟨w2.heap.size, 2, none⟩ u2).setCell ⟨w2.heap.size, 3, none⟩ u3).setCell ⟨w2.heap.size, 4, none⟩ u4).rangeAt w2.heap.size 0 [.int .i64 3, .string (bs l1), u2, u3, u4, .int .i64 0]) := Lib.hid (range_patch hrW)
                  have HS : RowKit.Hid (∀ w', Below W.heap.size W w' → (w'.cell? ⟨g, 4, none⟩ = some (.string (bs l2)) ∧ w'.cell? ⟨w4.heap.size, 0, none⟩ = some (.int .i64 a) ∧ w'.cell? ⟨w4.heap.size, 1, none⟩ = some (.int .i64 b))) := Lib.hid (fun w' hb => ⟨cell_later hb hg4, cell_later hb hv0, cell_later hb hv1⟩)
                  clear hrW hrT hbkW hA4
                  refine wp_region_late (fun w' => w'.cell? ⟨g, 4, none⟩ = some (.string (bs l2)) ∧ w'.cell? ⟨w4.heap.size, 0, none⟩ = some (.int .i64 a) ∧ w'.cell? ⟨w4.heap.size, 1, none⟩ = some (.int .i64 b)) [8] (by kernel_rfl) ?_
                  have hB0 : Below (W).heap.size (W) (W).drew := Below.drew (Below.refl _ _)
                  have hS0 := HS.out _ hB0
                  refine wpAnyL_take 0 9 (v := ?_) rfl (by kernel_rfl) (by kernel_rfl) (by kernel_rfl) (by kernel_rfl) (by kernel_rfl) (fun _ _ _ h => h) (Or.inl ⟨by rfl, ?_⟩) hS0 ?_
                  rotate_left
                  · intro w' hw'
                    try dsimp only at hw'
                    go_simp
                    try with_reducible rfl
                  try simp only [Act.put, List.setIfInBounds_toArray, List.set_cons_zero, List.set_cons_succ]
                  refine wpAnyL_take 1 9 (v := ?_) rfl (by kernel_rfl) (by kernel_rfl) (by kernel_rfl) (by kernel_rfl) (by kernel_rfl) (fun _ _ _ h => h) (Or.inl ⟨by rfl, ?_⟩) hS0 ?_
                  rotate_left
                  · intro w' hw'
                    try dsimp only at hw'
                    go_simp
                    try with_reducible rfl
                  try simp only [Act.put, List.setIfInBounds_toArray, List.set_cons_zero, List.set_cons_succ]
                  refine wpAnyL_take 2 9 (v := ?_) rfl (by kernel_rfl) (by kernel_rfl) (by kernel_rfl) (by kernel_rfl) (by kernel_rfl) (fun _ _ _ h => h) (Or.inl ⟨by rfl, ?_⟩) hS0 ?_
                  rotate_left
                  · intro w' hw'
                    try dsimp only at hw'
                    go_simp
                    try with_reducible rfl
                  try simp only [Act.put, List.setIfInBounds_toArray, List.set_cons_zero, List.set_cons_succ]
                  refine wpAnyL_take 3 9 (v := ?_) rfl (by kernel_rfl) (by kernel_rfl) (by kernel_rfl) (by kernel_rfl) (by kernel_rfl) (fun _ _ _ h => h) (Or.inl ⟨by rfl, ?_⟩) hS0 ?_
                  rotate_left
                  · intro w' hw'
                    try dsimp only at hw'
                    go_simp
                    try with_reducible rfl
                  try simp only [Act.put, List.setIfInBounds_toArray, List.set_cons_zero, List.set_cons_succ]
                  refine wpAnyL_take 4 9 (v := ?_) rfl (by kernel_rfl) (by kernel_rfl) (by kernel_rfl) (by kernel_rfl) (by kernel_rfl) (fun _ _ _ h => h) (Or.inl ⟨by rfl, ?_⟩) hS0 ?_
                  rotate_left
                  · intro w' hw'
                    try dsimp only at hw'
                    go_simp
                    try with_reducible rfl
                  try simp only [Act.put, List.setIfInBounds_toArray, List.set_cons_zero, List.set_cons_succ]
                  refine wpAnyL_one 5 rfl (by kernel_rfl) (fun K hK => ?_)
                  go_simp
                  refine hK.out _ _ (fun _ => hS0) ?_
                  clear hK K
                  try simp only [Act.put, List.setIfInBounds_toArray, List.set_cons_zero, List.set_cons_succ]
                  refine wpAnyL_one 6 rfl (by kernel_rfl) (fun K hK => ?_)
                  go_simp
                  have hS1 : ((W.drew).setCell ⟨w2.heap.size, 2, none⟩ (.string (bs l2))).cell? ⟨g, 4, none⟩ = some (.string (bs l2)) ∧ ((W.drew).setCell ⟨w2.heap.size, 2, none⟩ (.string (bs l2))).cell? ⟨w4.heap.size, 0, none⟩ = some (.int .i64 a) ∧ ((W.drew).setCell ⟨w2.heap.size, 2, none⟩ (.string (bs l2))).cell? ⟨w4.heap.size, 1, none⟩ = some (.int .i64 b) := by
                    refine ⟨?_, ?_, ?_⟩
                    · rw [cell_far _ _ _ _ (by simp; omega)]; exact hS0.1
                    · rw [cell_far _ _ _ _ (by simp; omega)]; exact hS0.2.1
                    · rw [cell_far _ _ _ _ (by simp; omega)]; exact hS0.2.2
                  refine hK.out _ _ (fun _ => hS1) ?_
                  clear hK K
                  try simp only [Act.put, List.setIfInBounds_toArray, List.set_cons_zero, List.set_cons_succ]
                  refine wpAnyL_one 7 rfl (by kernel_rfl) (fun K hK => ?_)
                  go_simp
                  refine hK.out _ _ (fun _ => hS1) ?_
                  clear hK K
                  try simp only [Act.put, List.setIfInBounds_toArray, List.set_cons_zero, List.set_cons_succ]
                  refine wpAnyL_one 8 rfl (by kernel_rfl) (fun K hK => ?_)
                  go_simp
                  refine hK.out _ _ (fun h => absurd h (by decide)) ?_
                  clear hK K
                  try simp only [Act.put, List.setIfInBounds_toArray, List.set_cons_zero, List.set_cons_succ]
                  refine wpAnyL_done (by kernel_rfl) ?_ _
                  try simp only [Act.put, List.setIfInBounds_toArray, List.set_cons_zero, List.set_cons_succ]
                  go_wp2_with fail
                  go_meet
                  exact ⟨rfl, RG.out _ _ _, by
                    have h9 := hb2W
                    (repeat' (first | (with_reducible exact Below.refl _ _) | (with_reducible assumption) | (refine below_next ?_ (by with_reducible assumption)) | (with_reducible refine Below.setCell ?_ ?_ _) | (with_reducible refine Below.alloc ?_ ?_ _) | (with_reducible refine Below.drew ?_) | (with_reducible refine below_drewN ?_ _) | omega | (simp; done) | (simp; omega)))⟩
                case rest =>
                  obtain ⟨rfl, hr9, hbx⟩ := hcut
                  have f0 := hr9 0 _ rfl
                  have f1 := hr9 1 _ rfl
                  have f2 := hr9 2 _ rfl
                  have f3 := hr9 3 _ rfl
                  have f4 := hr9 4 _ rfl
                  have f5 := hr9 5 _ rfl
                  simp only [Nat.zero_add] at f0 f1 f2 f3 f4 f5
                  obtain ⟨hcx, hfx⟩ := bcell hbx
                  have hbf := below_next (below_next HBW.out hbw2) hbx
                  have hrg := range_ev wc w.heap.size 3 a b 0 (bs l1) (bs l2) (there_later TR2 hbx)
                  clear hr9 hbx hc3 hf3 hc4 hf4
                  go_wp21
                  refine bodyPost_ret (ret_ev (3, l1, l2, a, b, 0) _ _ _ hrg rfl rfl rfl) rfl ⟨rfl, ?_⟩
                  (repeat' (first | (with_reducible exact Below.refl _ _) | (with_reducible assumption) | (refine below_next ?_ (by with_reducible assumption)) | (with_reducible refine Below.setCell ?_ ?_ _) | (with_reducible refine Below.alloc ?_ ?_ _) | (with_reducible refine Below.drew ?_) | (with_reducible refine below_drewN ?_ _) | omega | (simp; done) | (simp; omega)))
        · have hmd : decide (m = 4) = false := decide_eq_false hm4
          have hmn : ((m : Int) != 4) = true := by simp; omega
          have HR : RowKit.Hid (R = (noEv, false, 5)) := Lib.hid (by rw [HF.out]; simp only [if_true, hmd, Bool.false_and, Bool.and_false])
          clear HF
          have hR := HR.out
          clear HR hm4 hmd
          subst hR
          have hbf := HBW.out
          have hrg := range_ev wo w.heap.size 0 0 0 0 { data := #[] } { data := #[] } (TR.out)
          go_wp21
          refine bodyPost_ret (ret_ev noEv _ _ _ hrg rfl rfl rfl) rfl ⟨rfl, ?_⟩
          (repeat' (first | (with_reducible exact Below.refl _ _) | (with_reducible assumption) | (refine below_next ?_ (by with_reducible assumption)) | (with_reducible refine Below.setCell ?_ ?_ _) | (with_reducible refine Below.alloc ?_ ?_ _) | (with_reducible refine Below.drew ?_) | (with_reducible refine below_drewN ?_ _) | omega | (simp; done) | (simp; omega)))
      · rw [hlg] at HF
        clear hlg
        by_cases hm2 : m = 2
        · subst hm2
          cases hN1 : nameL l1 with
          | false =>
            rw [hN1] at HF HN1
            clear hN1
            have HR : RowKit.Hid (R = (noEv, false, 5)) := Lib.hid (by rw [HF.out]; rfl)
            clear HF
            have hR := HR.out
            clear HR
            subst hR
            have d1 := HC.out 1 l1 (by omega) HL1.out
            simp only [Nat.reduceMul] at d1
            go_wp2_with fail
            refine (HN1.out _).mono ?_
            rintro e w2 ⟨rfl, hbw2⟩
            obtain ⟨hc2, hf2⟩ := bcell hbw2
            have TR2 := there_later TR.out hbw2
            have hz2 : w.heap.size + 1 < w2.heap.size := by have := hbw2.size; omega
            have hz2a : w.heap.size < w2.heap.size := by omega
            have hgz2 : g < w2.heap.size := by have := hbw2.size; omega
            have hbf := below_next HBW.out hbw2
            have hrg := range_ev w2 w.heap.size 0 0 0 0 { data := #[] } { data := #[] } (TR2)
            go_wp21
            refine bodyPost_ret (ret_ev noEv _ _ _ hrg rfl rfl rfl) rfl ⟨rfl, ?_⟩
            (repeat' (first | (with_reducible exact Below.refl _ _) | (with_reducible assumption) | (refine below_next ?_ (by with_reducible assumption)) | (with_reducible refine Below.setCell ?_ ?_ _) | (with_reducible refine Below.alloc ?_ ?_ _) | (with_reducible refine Below.drew ?_) | (with_reducible refine below_drewN ?_ _) | omega | (simp; done) | (simp; omega)))
          | true =>
            rw [hN1] at HF HN1
            clear hN1
            have HR : RowKit.Hid (R = ((K, l1, [], 0, 0, 0), true, 0)) := Lib.hid (by rw [HF.out]; rfl)
            clear HF
            have hR := HR.out
            clear HR
            subst hR
            have d1 := HC.out 1 l1 (by omega) HL1.out
            simp only [Nat.reduceMul] at d1
            go_wp2_with fail
            refine (HN1.out _).mono ?_
            rintro e w2 ⟨rfl, hbw2⟩
            obtain ⟨hc2, hf2⟩ := bcell hbw2
            have TR2 := there_later TR.out hbw2
            have hz2 : w.heap.size + 1 < w2.heap.size := by have := hbw2.size; omega
            have hz2a : w.heap.size < w2.heap.size := by omega
            have hgz2 : g < w2.heap.size := by have := hbw2.size; omega
            have hbf := below_next HBW.out hbw2
            have hrg := World.rangeAt_alloc (range_ev w2 w.heap.size K 0 0 0 (bs l1) { data := #[] } TR2) (.cells #[.int .i64 K, .string (bs l1), .string { data := #[] }, .int .i64 0, .int .i64 0, .int .i64 0] 37)
            go_wp21
            refine bodyPost_ret (ret_ev (K, l1, [], 0, 0, 0) _ _ _ hrg rfl rfl rfl) rfl ⟨rfl, ?_⟩
            (repeat' (first | (with_reducible exact Below.refl _ _) | (with_reducible assumption) | (refine below_next ?_ (by with_reducible assumption)) | (with_reducible refine Below.setCell ?_ ?_ _) | (with_reducible refine Below.alloc ?_ ?_ _) | (with_reducible refine Below.drew ?_) | (with_reducible refine below_drewN ?_ _) | omega | (simp; done) | (simp; omega)))
        · have hmd : decide (m = 2) = false := decide_eq_false hm2
          have hmn : ((m : Int) != 2) = true := by simp; omega
          have HR : RowKit.Hid (R = (noEv, false, 5)) := Lib.hid (by rw [HF.out]; simp only [Bool.false_eq_true, if_false, hmd, Bool.false_and, Bool.and_false, if_true])
          clear HF
          have hR := HR.out
          clear HR hm2 hmd
          subst hR
          have hbf := HBW.out
          have hrg := range_ev wo w.heap.size 0 0 0 0 { data := #[] } { data := #[] } (TR.out)
          go_wp21
          refine bodyPost_ret (ret_ev noEv _ _ _ hrg rfl rfl rfl) rfl ⟨rfl, ?_⟩
          (repeat' (first | (with_reducible exact Below.refl _ _) | (with_reducible assumption) | (refine below_next ?_ (by with_reducible assumption)) | (with_reducible refine Below.setCell ?_ ?_ _) | (with_reducible refine Below.alloc ?_ ?_ _) | (with_reducible refine Below.drew ?_) | (with_reducible refine below_drewN ?_ _) | omega | (simp; done) | (simp; omega)))
end
theorem reparse_any (l : List UInt8) (hl : l.length ≤ 1000000) (w : World) :
    Calls Tryd.prog 68 #[.string (bs l)] w fun e w' => e = .returned (.tuple #[evV (parseE l).1, .bool (parseE l).2.1, .int .i64 (parseE l).2.2]) ∧ Below w.heap.size w w' := by
  rcases wordsR_cases l with h | h | ⟨W, hW0, h⟩
  · exact reparse_early l hl w (.inl h)
  · exact reparse_early l hl w (.inr h)
  · exact reparse_words l hl w W h hW0
end Go.Proofs.YtphhgdgamnogpaaDoor

namespace Go.Proofs.YtphhgdgamnogpaaDoor
open Go.RowKit Go.Lib

/-- An event on a line. -/
def onLine (x : EventM) (n : Int) : EventM := (x.1, x.2.1, x.2.2.1, x.2.2.2.1, x.2.2.2.2.1, n)
/-- The events of the lines from the i-th on, behind those that were read. -/
def logGo : List (List UInt8) → Nat → List EventM → List EventM × Int × Int
  | [], _, out => (out, 0, 0)
  | t :: r, i, out =>
    if (parseE t).2.2 ≠ 0 then ([], ((i + 1 : Nat) : Int), (parseE t).2.2)
    else if (parseE t).2.1 = false then logGo r (i + 1) out
    else if out.length = 1000 then ([], ((i + 1 : Nat) : Int), 7)
    else logGo r (i + 1) (out ++ [onLine (parseE t).1 ((i + 1 : Nat) : Int)])
/-- What a text is read as: events, the line of the first error, the error. -/
def readL (s : List UInt8) : List EventM × Int × Int :=
  if (ofL s).2.2 ≠ 0 then ([], ((ofL s).2.1 : Int), ((ofL s).2.2 : Int)) else logGo (ofL s).1 0 []
/-- Events' text behind a text. -/
def catGo : List EventM → List UInt8 → List UInt8 × Int
  | [], s => (s, 0)
  | x :: r, s => if 65536 < (s ++ lineE x ++ [10]).length then ([], 6) else catGo r (s ++ lineE x ++ [10])
/-- Events' text, and the error. -/
def writeL (L : List EventM) : List UInt8 × Int := if L.all mayE then catGo L [] else ([], 4)
/-- How many are of a kind. -/
def countL (L : List EventM) (k : Int) : Nat := (L.filter fun x => x.1 == k).length
/-- Not too many events, with names that are not too long. -/
def cutE (x : EventM) : EventM := (x.1, x.2.1.take 200, x.2.2.1.take 200, x.2.2.2.1, x.2.2.2.2.1, x.2.2.2.2.2)
def fewE (L : List EventM) : List EventM := (L.take 200).map cutE
theorem cutE_cut (x : EventM) : cutE (cutE x) = cutE x := by simp [cutE, List.take_take]
theorem fewE_few (L : List EventM) : fewE (fewE L) = fewE L := by
  unfold fewE
  rw [List.take_of_length_le (l := (L.take 200).map cutE) (by simp; omega), List.map_map]
  exact List.map_congr_left fun x _ => cutE_cut x
theorem fewE_len (L : List EventM) : (fewE L).length ≤ 200 := by unfold fewE; simp; omega
/-- Events with their lines, from the i-th on. -/
def lined : List EventM → Nat → List EventM
  | [], _ => []
  | x :: r, i => onLine x ((i + 1 : Nat) : Int) :: lined r (i + 1)

/-! ### lines of a text that was fed -/
theorem lines_run : ∀ (x cur t : List UInt8), (∀ b ∈ x, b ≠ 10) → linesAux cur (x ++ 10 :: t) = (cur ++ x) :: linesAux [] t
  | [], cur, t, _ => by
    show (if (10 : UInt8) = 10 then _ else _) = _
    rw [if_pos rfl]
    simp
  | b :: x, cur, t, h => by
    have hb : b ≠ 10 := h b (List.mem_cons_self ..)
    show (if b = 10 then _ else linesAux (cur ++ [b]) (x ++ 10 :: t)) = _
    rw [if_neg hb, lines_run x (cur ++ [b]) t (fun c hc => h c (List.mem_cons_of_mem _ hc))]
    simp
theorem lines_feed : ∀ L : List (List UInt8), (∀ x ∈ L, ∀ b ∈ x, b ≠ 10) → linesL (feedL L) = L
  | [], _ => rfl
  | x :: r, h => by
    have e : feedL (x :: r) = x ++ 10 :: feedL r := by simp [feedL]
    unfold linesL
    rw [e, lines_run x [] _ (h x (List.mem_cons_self ..)), List.nil_append]
    have := lines_feed r (fun y hy => h y (List.mem_cons_of_mem _ hy))
    unfold linesL at this
    rw [this]
theorem resGo_all (full : List (List UInt8)) : ∀ (r : List (List UInt8)) (n : Nat), (∀ x ∈ r, validD x = true) → resGo full n r = (full, 0, 0)
  | [], _, _ => rfl
  | x :: r, n, h => by
    unfold resGo
    rw [if_pos (h x (List.mem_cons_self ..)), resGo_all full r (n + 1) (fun y hy => h y (List.mem_cons_of_mem _ hy))]
theorem of_feed (L : List (List UInt8)) (h10 : ∀ x ∈ L, ∀ b ∈ x, b ≠ 10) (hv : ∀ x ∈ L, validD x = true) (hl : (feedL L).length ≤ 65536) : ofL (feedL L) = (L, 0, 0) := by
  unfold ofL
  rw [if_neg (by omega), lines_feed L h10, resGo_all L L 0 hv]

/-! ### reading undoes printing -/
theorem cat_text : ∀ (L : List EventM) (s : List UInt8), (catGo L s).2 = 0 → (catGo L s).1 = s ++ feedL (L.map lineE) ∧ (s.length ≤ 65536 → (catGo L s).1.length ≤ 65536)
  | [], s, _ => by simp [catGo, feedL]
  | x :: r, s, h => by
    unfold catGo at h ⊢
    split at h
    · simp at h
    · rename_i hc
      rw [if_neg hc]
      obtain ⟨h1, h2⟩ := cat_text r _ h
      refine ⟨?_, fun _ => h2 (by omega)⟩
      rw [h1]
      simp [feedL]
theorem cat_err : ∀ (L : List EventM) (s : List UInt8), (catGo L s).2 ≠ 0 → catGo L s = ([], 6)
  | [], s, h => absurd rfl h
  | x :: r, s, h => by
    unfold catGo at h ⊢
    split at h
    · rename_i hc
      rw [if_pos hc]
    · rename_i hc
      rw [if_neg hc]
      exact cat_err r _ h
theorem write_err (L : List EventM) (h : (writeL L).2 ≠ 0) : (writeL L).1 = [] := by
  unfold writeL at h ⊢
  split at h
  · rename_i hc
    rw [if_pos hc, cat_err L [] h]
  · rename_i hc
    rw [if_neg hc]
/-- May an event's value's number be a number of Go's? -/
def NumE (x : EventM) : Prop := -9223372036854775808 ≤ x.2.2.2.2.1 ∧ x.2.2.2.2.1 ≤ 9223372036854775807
theorem log_lines : ∀ (L : List EventM) (i : Nat) (out : List EventM), (∀ x ∈ L, mayE x = true ∧ NumE x) → out.length + L.length ≤ 1000 → logGo (L.map lineE) i out = (out ++ lined L i, 0, 0)
  | [], i, out, _, _ => by simp [logGo, lined]
  | x :: r, i, out, h, hl => by
    obtain ⟨hm, hn⟩ := h x (List.mem_cons_self ..)
    have hp := parse_line x hm hn.1 hn.2
    rw [List.map_cons]
    unfold logGo
    rw [hp]
    simp only [List.length_cons] at hl
    rw [if_neg (by simp), if_neg (by simp), if_neg (by omega), log_lines r (i + 1) _ (fun y hy => h y (List.mem_cons_of_mem _ hy)) (by simp; omega)]
    simp [lined, onLine]
theorem line_good (x : EventM) (h : mayE x = true) : validD (lineE x) = true ∧ ∀ b ∈ lineE x, b ≠ 10 := by
  unfold lineE
  rw [if_pos h]
  obtain ⟨h1, h2⟩ := join_valid (wordsE x) (may_words x h)
  exact ⟨h1, fun b hb => (h2 b hb).2⟩
/-- What is printed is read as the same events, with lines from 1 on. -/
theorem write_read (L : List EventM) (h : (writeL L).2 = 0) (hn : ∀ x ∈ L, NumE x) (hl : L.length ≤ 1000) : readL (writeL L).1 = (lined L 0, 0, 0) := by
  unfold writeL at h ⊢
  split at h
  · rename_i hc
    rw [if_pos hc]
    rw [List.all_eq_true] at hc
    obtain ⟨h1, h2⟩ := cat_text L [] h
    have hlen := h2 (by simp)
    rw [h1, List.nil_append] at hlen ⊢
    have hof : ofL (feedL (L.map lineE)) = (L.map lineE, 0, 0) := by
      refine of_feed _ ?_ ?_ hlen
      · intro x hx
        obtain ⟨y, hy, rfl⟩ := List.mem_map.1 hx
        exact (line_good y (hc y hy)).2
      · intro x hx
        obtain ⟨y, hy, rfl⟩ := List.mem_map.1 hx
        exact (line_good y (hc y hy)).1
    unfold readL
    rw [hof, if_neg (by simp)]
    have := log_lines L 0 [] (fun x hx => ⟨hc x hx, hn x hx⟩) (by simpa using hl)
    simpa using this
  · simp at h
end Go.Proofs.YtphhgdgamnogpaaDoor

namespace Go.Proofs.YtphhgdgamnogpaaDoor
open Go.RowKit

/-- Block B holds just these cells, of this type; none is frozen. -/
def Blk (w : World) (B : Nat) (t : TypeId) (cs : List Value) : Prop := w.heap[B]? = some (.cells cs.toArray t (0, 0))
theorem Blk.lt {w : World} {B : Nat} {t : TypeId} {cs : List Value} (h : Blk w B t cs) : B < w.heap.size := (Array.getElem?_eq_some_iff.1 h).1
theorem Blk.cell {w : World} {B : Nat} {t : TypeId} {cs : List Value} (h : Blk w B t cs) (i : Nat) {v : Value} (hi : cs[i]? = some v) : w.cell? ⟨B, i, none⟩ = some v := by
  rw [cell_of_row w B i cs.toArray t (0, 0) h]
  simpa using hi
theorem Blk.frozen {w : World} {B : Nat} {t : TypeId} {cs : List Value} (h : Blk w B t cs) (i : Nat) : w.frozen? ⟨B, i, none⟩ = false := by
  have h' : w.heap[B]? = some (.cells cs.toArray t (0, 0)) := h
  simp [World.frozen?, h']
theorem Blk.new (w : World) (t : TypeId) (cs : List Value) : Blk (w.alloc (.cells cs.toArray t)) w.heap.size t cs := heap_alloc_new w _
theorem Blk.kept {w w' : World} {row : Option Nat} {B : Nat} {t : TypeId} {cs : List Value} (h : Blk w B t cs) (hg : w.grownBy w' row) (hne : some B ≠ row) : Blk w' B t cs := (hg.block B h.lt hne).trans h
theorem Blk.alloc {w : World} {B : Nat} {t : TypeId} {cs : List Value} (h : Blk w B t cs) (o : Obj) : Blk (w.alloc o) B t cs := h.kept (World.grownBy_alloc w o none) (by simp)
theorem Blk.drew {w : World} {B : Nat} {t : TypeId} {cs : List Value} (h : Blk w B t cs) : Blk w.drew B t cs := h
theorem Blk.drewN {w : World} {B : Nat} {t : TypeId} {cs : List Value} (h : Blk w B t cs) (n : Nat) : Blk (w.drewN n) B t cs := h
theorem Blk.below {w w' : World} {B n : Nat} {t : TypeId} {cs : List Value} (h : Blk w B t cs) (hb : Below n w w') (hn : B < n) : Blk w' B t cs := (hb.block B hn).trans h
theorem Blk.later {w w' : World} {B : Nat} {t : TypeId} {cs : List Value} (h : Blk w B t cs) (hb : Below w.heap.size w w') : Blk w' B t cs := h.below hb h.lt
theorem Blk.far {w : World} {B : Nat} {t : TypeId} {cs : List Value} (h : Blk w B t cs) {a : Addr} (hne : B ≠ a.block) (v : Value) : Blk (w.setCell a v) B t cs := (Below.heap_setCell w a v B hne).trans h
theorem Blk.set {w : World} {B : Nat} {t : TypeId} {cs : List Value} (h : Blk w B t cs) (i : Nat) (v : Value) : Blk (w.setCell ⟨B, i, none⟩ v) B t (cs.set i v) := by
  have h' : w.heap[B]? = some (.cells cs.toArray t (0, 0)) := h
  simp [Blk, World.setCell, Array.getElem?_modify, h']
/-- A row of the call's own from a base on is kept by a store below that base. -/
theorem owns_far {w : World} {base size n : Nat} {e : TypeId} {v : Value} {xs : List Value} (h : w.ownsRow base e size v n xs) {a : Addr} (ha : a.block < base) (u : Value) : (w.setCell a u).ownsRow base e size v n xs := by
  obtain ⟨h1, h2⟩ := h
  refine ⟨h1, ?_⟩
  rcases h2 with h2 | ⟨g, cap, cur, e1, hb, hw, r⟩
  · exact .inl h2
  · exact .inr ⟨g, cap, cur, e1, hb, (Below.heap_setCell w a u g (by omega)).trans hw, r⟩
/-- A row of the call's own is kept where the row's block is. -/
theorem owns_keep {w w' : World} {base size n m : Nat} {e : TypeId} {v : Value} {xs : List Value} (h : w.ownsRow base e size v n xs) (hb : Below m w w') (hm : ∀ k, v.ownBlock = some k → k < m) : w'.ownsRow base e size v n xs := by
  obtain ⟨h1, h2⟩ := h
  refine ⟨h1, ?_⟩
  rcases h2 with h2 | ⟨g, cap, cur, e1, hg, hw, r⟩
  · exact .inl h2
  · exact .inr ⟨g, cap, cur, e1, hg, (hb.block g (hm g (by subst e1; rfl))).trans hw, r⟩
theorem owns_later {w w' : World} {base size n : Nat} {e : TypeId} {v : Value} {xs : List Value} (h : w.ownsRow base e size v n xs) (hb : Below w.heap.size w w') : w'.ownsRow base e size v n xs := owns_keep h hb (fun k hk => (h.lt k hk).2)
/-- Another row is kept by what grows one row. -/
theorem owns_other {w w' : World} {base base' size size' n n' : Nat} {e e' : TypeId} {v v' : Value} {xs xs' : List Value} (h : w.ownsRow base e size v n xs) (h' : w.ownsRow base' e' size' v' n' xs') (hne : e ≠ e') (hg : w.grownBy w' v'.ownBlock) : w'.ownsRow base e size v n xs := by
  refine h.kept hg ?_
  rcases h.2 with ⟨rfl, -⟩ | ⟨g, cap, cur, rfl, -, hw, -⟩
  · exact .inl rfl
  · refine .inr fun he => ?_
    rcases h'.2 with ⟨rfl, -⟩ | ⟨g', cap', cur', rfl, -, hw', -⟩
    · cases he
    · have e1 : g = g' := by simpa [Value.ownBlock] using he
      subst e1
      rw [hw] at hw'
      injection hw' with hw'
      injection hw' with _ hw'
      exact hne hw'
/-- A block of another type is kept by what grows a row. -/
theorem Blk.grown {w w' : World} {B base size n : Nat} {t e : TypeId} {cs : List Value} {v : Value} {xs : List Value} (h : Blk w B t cs) (ho : w.ownsRow base e size v n xs) (hB : B < base) (hg : w.grownBy w' v.ownBlock) : Blk w' B t cs :=
  h.kept hg (fun he => by have := (ho.lt B he.symm).1; omega)
/-- What an append to a row of one's own leaves below its base. -/
theorem below_own {w w' : World} {a : World} {B base size n : Nat} {e : TypeId} {v : Value} {xs : List Value} (hb : Below B a w) (hB : B ≤ base) (hs : B ≤ w.heap.size) (ho : w.ownsRow base e size v n xs) (hg : w.grownBy w' v.ownBlock) : Below B a w' :=
  hb.grown hg hs (fun k hk => Nat.le_trans hB (ho.lt k hk).1)
theorem below_own2 {w w' : World} {a : World} {B base size n : Nat} {e : TypeId} {v : Value} {xs : List Value} (hb : Below B a w) (hB : B ≤ base) (hs : B ≤ a.heap.size) (ho : w.ownsRow base e size v n xs) (hg : w.grownBy w' v.ownBlock) : Below B a w' :=
  below_own hb hB (Nat.le_trans hs hb.size) ho hg
/-- A row of at least one element is no nil slice. -/
theorem owns_some {w : World} {base size k : Nat} {e : TypeId} {v : Value} {xs : List Value} (h : w.ownsRow base e size v (k + 1) xs) : ∃ g cap, v = .slice (some ⟨g, 0, none⟩) (k + 1) cap := by
  rcases h.2 with ⟨-, h2⟩ | ⟨g, cap, cur, rfl, -⟩
  · cases h2
  · exact ⟨g, cap, rfl⟩
/-- A row is kept by a store into a block of another type. -/
theorem owns_store {w : World} {base size n B : Nat} {e t : TypeId} {v : Value} {xs cs : List Value} (h : w.ownsRow base e size v n xs) (hB : Blk w B t cs) (hne : e ≠ t) (i : Nat) (u : Value) : (w.setCell ⟨B, i, none⟩ u).ownsRow base e size v n xs := by
  obtain ⟨h1, h2⟩ := h
  refine ⟨h1, ?_⟩
  rcases h2 with h2 | ⟨g, cap, cur, e1, hg, hw, r⟩
  · exact .inl h2
  · refine .inr ⟨g, cap, cur, e1, hg, (Below.heap_setCell w _ u g fun he => ?_).trans hw, r⟩
    have he' : g = B := he
    subst he'
    have hB' : w.heap[g]? = some (.cells cs.toArray t (0, 0)) := hB
    rw [hw] at hB'
    injection hB' with hB'
    injection hB' with _ hB'
    exact hne hB'
/-- The cells of a block that was just made, as what is appended. -/
theorem news_lit (w : World) (cs : List Value) (e : TypeId) (n : Nat) (hn : n = w.heap.size) : ∀ (j : Nat) (u : Value), cs[j]? = some u → (w.alloc (.cells cs.toArray e)).cell? ((⟨n, 0, none⟩ : Addr).add j) = some u := by
  intro j u hj
  subst hn
  rw [Addr.add_lit, Nat.zero_add]
  exact (Blk.new w e cs).cell j hj
/-- A row that lies below a base is kept by what grows a row from that base on. -/
theorem owns_apart {w w' : World} {b1 N s1 s2 n1 n2 : Nat} {e1 e2 : TypeId} {v1 v2 : Value} {xs1 xs2 : List Value} (h : w.ownsRow b1 e1 s1 v1 n1 xs1) (hN : ∀ k, v1.ownBlock = some k → k < N) (h2 : w.ownsRow N e2 s2 v2 n2 xs2) (hg : w.grownBy w' v2.ownBlock) : w'.ownsRow b1 e1 s1 v1 n1 xs1 := by
  refine h.kept hg ?_
  cases hb : v1.ownBlock with
  | none => exact .inl rfl
  | some k =>
    refine .inr fun he => ?_
    have := (h2.lt k he.symm).1
    have := hN k hb
    omega
theorem owns_form {w : World} {base size n : Nat} {e : TypeId} {v : Value} {xs : List Value} (h : w.ownsRow base e size v n xs) : ∃ p cap, v = .slice p n cap := by
  rcases h.2 with ⟨rfl, rfl⟩ | ⟨g, cap, cur, rfl, -⟩
  · exact ⟨_, _, rfl⟩
  · exact ⟨_, _, rfl⟩
theorem owns_base {w : World} {base base' size n : Nat} {e : TypeId} {v : Value} {xs : List Value} (h : w.ownsRow base e size v n xs) (hb : base' ≤ base) : w.ownsRow base' e size v n xs := by
  obtain ⟨h1, h2⟩ := h
  refine ⟨h1, ?_⟩
  rcases h2 with h2 | ⟨g, cap, cur, e1, hg, r⟩
  · exact .inl h2
  · exact .inr ⟨g, cap, cur, e1, Nat.le_trans hb hg, r⟩
end Go.Proofs.YtphhgdgamnogpaaDoor

namespace Go.Proofs.YtphhgdgamnogpaaDoor
open Go.RowKit Go.Lib

theorem go_err (t : List UInt8) (r : List (List UInt8)) (i : Nat) (out : List EventM) (x : EventM) (b : Bool) (e : Int) (h : parseE t = (x, b, e)) (he : e ≠ 0) : logGo (t :: r) i out = ([], ((i + 1 : Nat) : Int), e) := by
  unfold logGo
  rw [h, if_pos he]
theorem go_skip' (t : List UInt8) (r : List (List UInt8)) (i : Nat) (out : List EventM) (x : EventM) (h : parseE t = (x, false, 0)) : logGo (t :: r) i out = logGo r (i + 1) out := by
  rw [logGo]
  rw [h, if_neg (by simp), if_pos rfl]
theorem go_full (t : List UInt8) (r : List (List UInt8)) (i : Nat) (out : List EventM) (x : EventM) (h : parseE t = (x, true, 0)) (hl : out.length = 1000) : logGo (t :: r) i out = ([], ((i + 1 : Nat) : Int), 7) := by
  unfold logGo
  rw [h, if_neg (by simp), if_neg (by simp), if_pos hl]
theorem go_more (t : List UInt8) (r : List (List UInt8)) (i : Nat) (out : List EventM) (x : EventM) (h : parseE t = (x, true, 0)) (hl : out.length ≠ 1000) : logGo (t :: r) i out = logGo r (i + 1) (out ++ [onLine x ((i + 1 : Nat) : Int)]) := by
  rw [logGo]
  rw [h, if_neg (by simp), if_neg (by simp), if_neg hl]
theorem parse_cases (t : List UInt8) : (∃ x e, parseE t = (x, false, e) ∧ (e != 0) = true) ∨ (∃ x, parseE t = (x, false, 0)) ∨ (∃ x, parseE t = (x, true, 0)) := by
  obtain ⟨⟨x, b, e⟩, h⟩ : ∃ y, parseE t = y := ⟨_, rfl⟩
  have hm := parse_may t
  rw [h] at hm ⊢
  cases b with
  | false =>
    by_cases he : e = 0
    · subst he; exact .inr (.inl ⟨x, rfl⟩)
    · exact .inl ⟨x, e, rfl, by simpa using he⟩
  | true =>
    have := (hm rfl).1
    simp only at this
    subst this
    exact .inr (.inr ⟨x, rfl⟩)
theorem line_short (l : List UInt8) (j : Nat) : ((ofL l).1.getD j []).length ≤ l.length := by
  by_cases h : j < (ofL l).1.length
  · have hm : (ofL l).1.getD j [] ∈ (ofL l).1 := by simp [h]
    generalize (ofL l).1.getD j [] = x at *
    have key : ∀ (full : List (List UInt8)) (r : List (List UInt8)) (n : Nat), x ∈ (resGo full n r).1 → x ∈ full := by
      intro full r
      induction r with
      | nil => intro n hx; exact hx
      | cons y r ih =>
        intro n hx
        unfold resGo at hx
        split at hx
        · exact ih _ hx
        · cases hx
    unfold ofL at hm
    split at hm
    · cases hm
    · have h1 := key _ _ _ hm
      have lines : ∀ (t cur : List UInt8), ∀ y ∈ linesAux cur t, y.length ≤ cur.length + t.length := by
        intro t
        induction t with
        | nil =>
          intro cur y hy
          unfold linesAux at hy
          split at hy
          · cases hy
          · obtain rfl : y = cur := by simpa using hy
            simp
        | cons b t ih =>
          intro cur y hy
          unfold linesAux at hy
          split at hy
          · rcases List.mem_cons.1 hy with rfl | hy
            · omega
            · have := ih [] y hy
              simp at this ⊢
              omega
          · have := ih _ y hy
            simp at this ⊢
            omega
      have := lines l [] x h1
      simpa using this
  · have : (ofL l).1.getD j [] = [] := by simp [h]
    rw [this]
    exact Nat.zero_le _

set_option maxRecDepth 100000 in
set_option maxHeartbeats 8000000 in
theorem log_any (l : List UInt8) (hl : l.length ≤ 1000000) (w : World) (hT : Lib.Utf8Tabs 4 5 w) (hm : HasMax w) (hE : EvTab w) :
    Calls Tryd.prog 28 #[.string (bs l)] w fun e w' => ∃ v, e = .returned (.tuple #[v, .int .i64 (readL l).2.1, .int .i64 (readL l).2.2]) ∧ EvsS w' v (readL l).1 ∧ Below w.heap.size w w' := by
  have HO := Lib.hid (lof_any l hl w hm)
  have HP := Lib.hid (fun t (ht : t.length ≤ 1000000) w' (h : Below w.heap.size w w') => eparse_any t ht w' (Utf8Tabs_below hT h) (hm.below h) (hE.below h))
  have HLs := Lib.hid (fun j => Nat.le_trans (line_short l j) hl)
  have hlen : (ofL l).1.length ≤ 1000001 := by
    unfold ofL
    split
    · simp
    · by_cases h : (resGo (linesL l) 0 (linesL l)).2.2 = 0
      · rw [(resGo_full _ _ _ h).1]
        have := lines_len l []
        unfold linesL
        omega
      · rw [(resGo_bad _ _ _ h).1]; simp
  clear hT hm hE
  have hre : readL l = if (ofL l).2.2 ≠ 0 then ([], ((ofL l).2.1 : Int), ((ofL l).2.2 : Int)) else logGo (ofL l).1 0 [] := rfl
  obtain ⟨⟨lns, en, ee⟩, hof⟩ : ∃ y, ofL l = y := ⟨_, rfl⟩
  rw [hof] at HO HLs hlen hre
  simp only at HO HLs hlen hre
  generalize readL l = R at *
  clear hof hl
  by_cases he : ee = 0
  · subst he
    rw [if_neg (by simp)] at hre
    have HRe := Lib.hid hre
    clear hre
    obtain ⟨i0, hi, hz0, hz1, hz2⟩ := info_parts info_ev
    go_enter Tryd.func28, Tryd.ntmps28
    go_wp2_with fail
    refine HO.out.mono ?_
    rintro e w1 ⟨v1, rfl, hv1, hb1⟩
    obtain ⟨p, cap, rfl, hc⟩ := hv1
    have HC := Lib.hid hc
    have HB1 := Lib.hid hb1
    clear hc hb1
    go_wp2_with fail
    go_loopw [8, 26] (fun v8 i wr => ∃ (k : Nat) (out : List EventM), k ≤ lns.length ∧ out.length ≤ k ∧ i = .int .i64 k ∧ wr.ownsRow w1.heap.size 37 6 v8 out.length (evcs out) ∧ RowKit.Hid (logGo (lns.drop k) k out = R) ∧ Below w1.heap.size w1 wr) (fun _ i _ => lns.length - (RowKit.intOf i).toNat)
    case atStart => exact ⟨0, [], Nat.zero_le _, Nat.le_refl _, rfl, World.ownsRow_nil _ _ _ _, Lib.hid (by rw [List.drop_zero]; exact HRe.out.symm), Below.refl _ _⟩
    case round =>
      obtain ⟨k, out, hk, hol, rfl, hown, HG, hbw⟩ := hrel
      by_cases hlt : k < lns.length
      · obtain ⟨g, rfl, hcell⟩ := HC.out k hlt
        have hc1 := cell_later hbw hcell
        have hd : lns.drop k = lns.getD k [] :: lns.drop (k + 1) := by
          rw [List.drop_eq_getElem_cons hlt]
          simp [hlt]
        have HG2 := Lib.hid HG.out
        rw [hd] at HG2
        have htl := HLs.out k
        have HPk := Lib.hid (HP.out (lns.getD k []) htl)
        generalize lns.getD k [] = t at *
        have HB := Lib.hid (below_next HB1.out hbw)
        have HBw := Lib.hid hbw
        have HOw := Lib.hid hown
        clear HG hd hcell hown hbw htl
        rcases parse_cases t with ⟨x, e, hp, he⟩ | ⟨x, hp⟩ | ⟨x, hp⟩
        · rw [hp] at HPk
          have HR : RowKit.Hid (R = ([], ((k + 1 : Nat) : Int), e)) := Lib.hid (by rw [← HG2.out]; exact go_err _ _ _ _ _ _ _ hp (by simpa using he))
          clear hp HG2
          obtain ⟨x1, x2, x3, x4, x5, x6⟩ := x
          unfold evV at HPk
          dsimp only at HPk
          go_wp2_with fail
          refine (HPk.out _ HB.out).mono ?_
          rintro e2 w2 ⟨rfl, hb2⟩
          have hf2 := below_next HB.out hb2
          go_wp2_with fail
          go_ret3
          exact ⟨_, by rw [HR.out]; rfl, by rw [HR.out]; exact evs_none _, hf2.alloc hf2.size _⟩
        · rw [hp] at HPk
          have HR : RowKit.Hid (logGo (lns.drop (k + 1)) (k + 1) out = R) := Lib.hid (by rw [← HG2.out]; exact (go_skip' _ _ _ _ _ hp).symm)
          clear hp HG2
          obtain ⟨x1, x2, x3, x4, x5, x6⟩ := x
          unfold evV at HPk
          dsimp only at HPk
          go_wp2_with fail
          refine (HPk.out _ HB.out).mono ?_
          rintro e2 w2 ⟨rfl, hb2⟩
          have hf2 := below_next HBw.out hb2
          have ho2 := (owns_later HOw.out hb2)
          go_wp2_with fail
          go_roundw
          case rel => exact ⟨k + 1, out, by omega, by omega, by go_num, ho2.alloc _, HR, hf2.alloc hf2.size _⟩
          case measure => simp [RowKit.intOf]; omega
        · rw [hp] at HPk
          obtain ⟨x1, x2, x3, x4, x5, x6⟩ := x
          obtain ⟨p8, c8, rfl⟩ := owns_form HOw.out
          by_cases hfull : out.length = 1000
          · have HR : RowKit.Hid (R = ([], ((k + 1 : Nat) : Int), 7)) := Lib.hid (by rw [← HG2.out]; exact go_full _ _ _ _ _ hp hfull)
            have hfb : ((out.length : Int) == 1000) = true := by simp; omega
            clear hp HG2 hfull
            unfold evV at HPk
            dsimp only at HPk
            go_wp2_with fail
            refine (HPk.out _ HB.out).mono ?_
            rintro e2 w2 ⟨rfl, hb2⟩
            have hf2 := below_next HB.out hb2
            go_wp2_with fail
            go_ret3
            exact ⟨_, by rw [HR.out]; rfl, by rw [HR.out]; exact evs_none _, hf2.alloc hf2.size _⟩
          · have HR : RowKit.Hid (logGo (lns.drop (k + 1)) (k + 1) (out ++ [(x1, x2, x3, x4, x5, (k : Int) + 1)]) = R) := Lib.hid (by rw [← HG2.out]; exact (go_more _ _ _ _ _ hp hfull).symm)
            have hfb : ((out.length : Int) == 1000) = false := by rw [beq_eq_false_iff_ne]; omega
            clear hp HG2 hfull
            unfold evV at HPk
            dsimp only at HPk
            go_wp2_with fail
            refine (HPk.out _ HB.out).mono ?_
            rintro e2 w2 ⟨rfl, hb2⟩
            have hbx := below_next HBw.out hb2
            have ho2 := owns_later HOw.out hb2
            have hz := hbx.size
            clear hb2
            go_wp2_with (at_builtin; refine wpList_append_own _ rfl (.tmp 52) (.tmp 54) 44 rfl w1.heap.size 37 i0 (.agg #[.int .i64 0, .string ByteArray.empty, .string ByteArray.empty, .int .i64 0, .int .i64 0, .int .i64 0]) 6 64 Tryd.underlying44 hi hz0 hz1 hz2 rfl (by decide) _ _ _ rfl ((ho2.alloc _).alloc _) ⟨w2.heap.size + 1, 0, none⟩ 1 1 [.int .i64 x1, .string (bs x2), .string (bs x3), .int .i64 x4, .int .i64 x5, .int .i64 ((k : Int) + 1)] rfl rfl (news_lit _ _ _ _ (by simp)) (ones_ev _ _ _ _ _ _) (by unfold maxLen; omega) (by omega) (by simp; omega) ?_)
            intro v4 w4 hown4 hgrow hnil
            have hb4 : Below w1.heap.size w1 w4 := ((hbx.alloc hz _).alloc (by simp; omega) _).grown hgrow (by simp; omega) (fun k hk => (ho2.lt k hk).1)
            have HO4 : RowKit.Hid (w4.ownsRow w1.heap.size 37 6 v4 (out ++ [(x1, x2, x3, x4, x5, (k : Int) + 1)]).length (evcs (out ++ [(x1, x2, x3, x4, x5, (k : Int) + 1)]))) := Lib.hid (by rw [← evcs_snoc, List.length_append]; exact hown4)
            clear hown4 hgrow hnil ho2 hbx
            go_wp2_with fail
            go_roundw
            case rel => exact ⟨k + 1, _, by omega, by simp; omega, by go_num, HO4.out, HR, hb4⟩
            case measure => simp [RowKit.intOf]; omega
      · have hke : k = lns.length := by omega
        subst hke
        have HR : RowKit.Hid (R = (out, 0, 0)) := Lib.hid (by rw [← HG.out, List.drop_length]; rfl)
        have HOw := Lib.hid (own_evs hown)
        clear hown HG
        go_wp2_with fail
        go_ret3
        exact ⟨_, by rw [HR.out]; rfl, by rw [HR.out]; exact HOw.out, below_next HB1.out hbw⟩
  · have hd : (((ee : Nat) : Int) != 0) = true := by simp; omega
    rw [if_pos he] at hre
    have HRe := Lib.hid hre
    clear hre he
    go_enter Tryd.func28, Tryd.ntmps28
    go_wp2_with fail
    refine HO.out.mono ?_
    rintro e w1 ⟨v1, rfl, hv1, hb1⟩
    go_wp2_with fail
    go_ret3
    exact ⟨_, by rw [HRe.out]; rfl, by rw [HRe.out]; exact evs_none _, hb1⟩
end Go.Proofs.YtphhgdgamnogpaaDoor

namespace Go.Proofs.YtphhgdgamnogpaaDoor
open Go.RowKit Go.Lib

set_option maxRecDepth 100000 in
set_option maxHeartbeats 8000000 in
theorem rlog_of (HP0 : ∀ t : List UInt8, t.length ≤ 1000000 → ∀ w' : World, Calls Tryd.prog 68 #[.string (bs t)] w' fun e w'' => e = .returned (.tuple #[evV (parseE t).1, .bool (parseE t).2.1, .int .i64 (parseE t).2.2]) ∧ Below w'.heap.size w' w'') (l : List UInt8) (hl : l.length ≤ 1000000) (w : World) :
    Calls Tryd.prog 29 #[.string (bs l)] w fun e w' => ∃ v, e = .returned (.tuple #[v, .int .i64 (readL l).2.1, .int .i64 (readL l).2.2]) ∧ EvsS w' v (readL l).1 ∧ Below w.heap.size w w' := by
  have HO := Lib.hid (rof_any l hl w)
  have HP := Lib.hid HP0
  have HLs := Lib.hid (fun j => Nat.le_trans (line_short l j) hl)
  have hlen : (ofL l).1.length ≤ 1000001 := by
    unfold ofL
    split
    · simp
    · by_cases h : (resGo (linesL l) 0 (linesL l)).2.2 = 0
      · rw [(resGo_full _ _ _ h).1]
        have := lines_len l []
        unfold linesL
        omega
      · rw [(resGo_bad _ _ _ h).1]; simp
  have hre : readL l = if (ofL l).2.2 ≠ 0 then ([], ((ofL l).2.1 : Int), ((ofL l).2.2 : Int)) else logGo (ofL l).1 0 [] := rfl
  obtain ⟨⟨lns, en, ee⟩, hof⟩ : ∃ y, ofL l = y := ⟨_, rfl⟩
  rw [hof] at HO HLs hlen hre
  simp only at HO HLs hlen hre
  generalize readL l = R at *
  clear hof hl
  by_cases he : ee = 0
  · subst he
    rw [if_neg (by simp)] at hre
    have HRe := Lib.hid hre
    clear hre
    obtain ⟨i0, hi, hz0, hz1, hz2⟩ := info_parts info_ev
    go_enter Tryd.func29, Tryd.ntmps29
    go_wp2_with fail
    refine HO.out.mono ?_
    rintro e w1 ⟨v1, rfl, hv1, hb1⟩
    obtain ⟨p, cap, rfl, hc⟩ := hv1
    have HC := Lib.hid hc
    have HB1 := Lib.hid hb1
    clear hc hb1
    go_wp2_with fail
    go_loopw [8, 9] (fun v8 i wr => ∃ (k : Nat) (out : List EventM), k ≤ lns.length ∧ out.length ≤ k ∧ i = .int .i64 k ∧ wr.ownsRow w1.heap.size 37 6 v8 out.length (evcs out) ∧ RowKit.Hid (logGo (lns.drop k) k out = R) ∧ Below w1.heap.size w1 wr) (fun _ i _ => lns.length - (RowKit.intOf i).toNat)
    case atStart => exact ⟨0, [], Nat.zero_le _, Nat.le_refl _, rfl, World.ownsRow_made w1 #[] 0 (Nat.le_refl _) (Nat.zero_le _) rfl, Lib.hid (by rw [List.drop_zero]; exact HRe.out.symm), (Below.refl _ _).alloc (Nat.le_refl _) _⟩
    case round =>
      obtain ⟨k, out, hk, hol, rfl, hown, HG, hbw⟩ := hrel
      by_cases hlt : k < lns.length
      · obtain ⟨g, rfl, hcell⟩ := HC.out k hlt
        have hc1 := cell_later hbw hcell
        have hd : lns.drop k = lns.getD k [] :: lns.drop (k + 1) := by
          rw [List.drop_eq_getElem_cons hlt]
          simp [hlt]
        have HG2 := Lib.hid HG.out
        rw [hd] at HG2
        have htl := HLs.out k
        have HPk := Lib.hid (HP.out (lns.getD k []) htl)
        generalize lns.getD k [] = t at *
        have HB := Lib.hid (below_next HB1.out hbw)
        have HBw := Lib.hid hbw
        have HOw := Lib.hid hown
        clear HG hd hcell hown hbw htl
        rcases parse_cases t with ⟨x, e, hp, he⟩ | ⟨x, hp⟩ | ⟨x, hp⟩
        · rw [hp] at HPk
          have HR : RowKit.Hid (R = ([], ((k + 1 : Nat) : Int), e)) := Lib.hid (by rw [← HG2.out]; exact go_err _ _ _ _ _ _ _ hp (by simpa using he))
          clear hp HG2
          obtain ⟨x1, x2, x3, x4, x5, x6⟩ := x
          unfold evV at HPk
          dsimp only at HPk
          go_wp2_with fail
          refine (HPk.out _).mono ?_
          rintro e2 w2 ⟨rfl, hb2⟩
          have hf2 := below_next HB.out hb2
          go_wp2_with fail
          go_ret3
          exact ⟨_, by rw [HR.out]; rfl, by rw [HR.out]; exact evs_none _, hf2.alloc hf2.size _⟩
        · rw [hp] at HPk
          have HR : RowKit.Hid (logGo (lns.drop (k + 1)) (k + 1) out = R) := Lib.hid (by rw [← HG2.out]; exact (go_skip' _ _ _ _ _ hp).symm)
          clear hp HG2
          obtain ⟨x1, x2, x3, x4, x5, x6⟩ := x
          unfold evV at HPk
          dsimp only at HPk
          go_wp2_with fail
          refine (HPk.out _).mono ?_
          rintro e2 w2 ⟨rfl, hb2⟩
          have hf2 := below_next HBw.out hb2
          have ho2 := (owns_later HOw.out hb2)
          go_wp2_with fail
          go_roundw
          case rel => exact ⟨k + 1, out, by omega, by omega, by go_num, ho2.alloc _, HR, hf2.alloc hf2.size _⟩
          case measure => simp [RowKit.intOf]; omega
        · rw [hp] at HPk
          obtain ⟨x1, x2, x3, x4, x5, x6⟩ := x
          obtain ⟨p8, c8, rfl⟩ := owns_form HOw.out
          by_cases hfull : out.length = 1000
          · have HR : RowKit.Hid (R = ([], ((k + 1 : Nat) : Int), 7)) := Lib.hid (by rw [← HG2.out]; exact go_full _ _ _ _ _ hp hfull)
            have hfb : ((out.length : Int) == 1000) = true := by simp; omega
            clear hp HG2 hfull
            unfold evV at HPk
            dsimp only at HPk
            go_wp2_with fail
            refine (HPk.out _).mono ?_
            rintro e2 w2 ⟨rfl, hb2⟩
            have hf2 := below_next HB.out hb2
            go_wp2_with fail
            go_ret3
            exact ⟨_, by rw [HR.out]; rfl, by rw [HR.out]; exact evs_none _, hf2.alloc hf2.size _⟩
          · have HR : RowKit.Hid (logGo (lns.drop (k + 1)) (k + 1) (out ++ [(x1, x2, x3, x4, x5, (k : Int) + 1)]) = R) := Lib.hid (by rw [← HG2.out]; exact (go_more _ _ _ _ _ hp hfull).symm)
            have hfb : ((out.length : Int) == 1000) = false := by rw [beq_eq_false_iff_ne]; omega
            clear hp HG2 hfull
            unfold evV at HPk
            dsimp only at HPk
            go_wp2_with fail
            refine (HPk.out _).mono ?_
            rintro e2 w2 ⟨rfl, hb2⟩
            have hbx := below_next HBw.out hb2
            have ho2 := owns_later HOw.out hb2
            have hz := hbx.size
            clear hb2
            go_wp2_with (at_builtin; refine wpList_append_own _ rfl (.tmp 54) (.tmp 56) 44 rfl w1.heap.size 37 i0 (.agg #[.int .i64 0, .string ByteArray.empty, .string ByteArray.empty, .int .i64 0, .int .i64 0, .int .i64 0]) 6 64 Tryd.underlying44 hi hz0 hz1 hz2 rfl (by decide) _ _ _ rfl ((ho2.alloc _).alloc _) ⟨w2.heap.size + 1, 0, none⟩ 1 1 [.int .i64 x1, .string (bs x2), .string (bs x3), .int .i64 x4, .int .i64 x5, .int .i64 ((k : Int) + 1)] rfl rfl (news_lit _ _ _ _ (by simp)) (ones_ev _ _ _ _ _ _) (by unfold maxLen; omega) (by omega) (by simp; omega) ?_)
            intro v4 w4 hown4 hgrow hnil
            have hb4 : Below w1.heap.size w1 w4 := ((hbx.alloc hz _).alloc (by simp; omega) _).grown hgrow (by simp; omega) (fun k hk => (ho2.lt k hk).1)
            have HO4 : RowKit.Hid (w4.ownsRow w1.heap.size 37 6 v4 (out ++ [(x1, x2, x3, x4, x5, (k : Int) + 1)]).length (evcs (out ++ [(x1, x2, x3, x4, x5, (k : Int) + 1)]))) := Lib.hid (by rw [← evcs_snoc, List.length_append]; exact hown4)
            clear hown4 hgrow hnil ho2 hbx
            go_wp2_with fail
            go_roundw
            case rel => exact ⟨k + 1, _, by omega, by simp; omega, by go_num, HO4.out, HR, hb4⟩
            case measure => simp [RowKit.intOf]; omega
      · have hke : k = lns.length := by omega
        subst hke
        have HR : RowKit.Hid (R = (out, 0, 0)) := Lib.hid (by rw [← HG.out, List.drop_length]; rfl)
        have HOw := Lib.hid (own_evs hown)
        clear hown HG
        go_wp2_with fail
        go_ret3
        exact ⟨_, by rw [HR.out]; rfl, by rw [HR.out]; exact HOw.out, below_next HB1.out hbw⟩
  · have hd : (((ee : Nat) : Int) != 0) = true := by simp; omega
    rw [if_pos he] at hre
    have HRe := Lib.hid hre
    clear hre he
    go_enter Tryd.func29, Tryd.ntmps29
    go_wp2_with fail
    refine HO.out.mono ?_
    rintro e w1 ⟨v1, rfl, hv1, hb1⟩
    go_wp2_with fail
    go_ret3
    exact ⟨_, by rw [HRe.out]; rfl, by rw [HRe.out]; exact evs_none _, hb1⟩
end Go.Proofs.YtphhgdgamnogpaaDoor

namespace Go.Proofs.YtphhgdgamnogpaaDoor
open Go.RowKit Go.Lib

theorem evlist_same (L M : List EventM) (hl : L.length = M.length) (h : ∀ j, j < L.length → L.getD j noEv = M.getD j noEv) : L = M := by
  refine List.ext_getElem hl (fun j h1 h2 => ?_)
  have := h j h1
  simpa [h1, h2] using this
theorem evlist_not {L M : List EventM} {k : Nat} (h : L.getD k noEv ≠ M.getD k noEv) : L ≠ M := fun e => h (by rw [e])
theorem evlen_not {L M : List EventM} (h : L.length ≠ M.length) : L ≠ M := fun e => h (by rw [e])
theorem ev_at {w : World} {g j : Nat} {x : EventM} (h : ∀ i u, (evc x)[i]? = some u → w.cell? ⟨g, j * 6 + i, none⟩ = some u) :
    w.cell? ⟨g, j * 6, none⟩ = some (.int .i64 x.1) ∧ w.cell? ⟨g, j * 6 + 1, none⟩ = some (.string (bs x.2.1)) ∧ w.cell? ⟨g, j * 6 + 2, none⟩ = some (.string (bs x.2.2.1)) ∧ w.cell? ⟨g, j * 6 + 3, none⟩ = some (.int .i64 x.2.2.2.1) ∧ w.cell? ⟨g, j * 6 + 4, none⟩ = some (.int .i64 x.2.2.2.2.1) ∧ w.cell? ⟨g, j * 6 + 5, none⟩ = some (.int .i64 x.2.2.2.2.2) :=
  ⟨h 0 _ rfl, h 1 _ rfl, h 2 _ rfl, h 3 _ rfl, h 4 _ rfl, h 5 _ rfl⟩
theorem ev_differ {x1 x4 x5 x6 y1 y4 y5 y6 : Int} {x2 x3 y2 y3 : List UInt8} (h : ¬ ((x1, x2, x3, x4, x5, x6) : EventM) = (y1, y2, y3, y4, y5, y6)) :
    (¬ x1 = y1) ∨ (x1 = y1 ∧ ¬ x2 = y2) ∨ (x1 = y1 ∧ x2 = y2 ∧ ¬ x3 = y3) ∨ (x1 = y1 ∧ x2 = y2 ∧ x3 = y3 ∧ ¬ x4 = y4) ∨ (x1 = y1 ∧ x2 = y2 ∧ x3 = y3 ∧ x4 = y4 ∧ ¬ x5 = y5) ∨ (x1 = y1 ∧ x2 = y2 ∧ x3 = y3 ∧ x4 = y4 ∧ x5 = y5 ∧ ¬ x6 = y6) := by
  by_cases h1 : x1 = y1
  · by_cases h2 : x2 = y2
    · by_cases h3 : x3 = y3
      · by_cases h4 : x4 = y4
        · by_cases h5 : x5 = y5
          · by_cases h6 : x6 = y6
            · exact absurd (by rw [h1, h2, h3, h4, h5, h6]) h
            · exact .inr (.inr (.inr (.inr (.inr ⟨h1, h2, h3, h4, h5, h6⟩))))
          · exact .inr (.inr (.inr (.inr (.inl ⟨h1, h2, h3, h4, h5⟩))))
        · exact .inr (.inr (.inr (.inl ⟨h1, h2, h3, h4⟩)))
      · exact .inr (.inr (.inl ⟨h1, h2, h3⟩))
    · exact .inr (.inl ⟨h1, h2⟩)
  · exact .inl h1

set_option maxRecDepth 100000 in
set_option maxHeartbeats 4000000 in
theorem rsame08_any (v v' : Value) (L M : List EventM) (w : World) (hv : EvsS w v L) (hv' : EvsS w v' M) (hl : L.length ≤ 1000000) (_ : M.length ≤ 1000000) :
    Calls Tryd.prog 30 #[v, v'] w fun e w' => e = .returned (.bool (decide (L = M))) ∧ Below w.heap.size w w' := by
  obtain ⟨p, c, rfl, hp⟩ := hv
  obtain ⟨q, d, rfl, hq⟩ := hv'
  have HP := Lib.hid hp
  have HQ := Lib.hid hq
  clear hp hq
  go_enter Tryd.func30, Tryd.ntmps30
  by_cases hlm : L.length = M.length
  · have hlmi : ((L.length : Nat) : Int) = ((M.length : Nat) : Int) := by omega
    have HLM := Lib.hid hlm
    clear hlm
    go_wp2_with fail
    go_loopw [5] (fun i wr => ∃ k : Nat, k ≤ L.length ∧ i = .int .i64 k ∧ (∀ j, j < k → L.getD j noEv = M.getD j noEv) ∧ Below w.heap.size w wr) (fun i _ => L.length - (RowKit.intOf i).toNat)
    case atStart => exact ⟨0, Nat.zero_le _, rfl, fun j hj => absurd hj (Nat.not_lt_zero j), Below.refl _ _⟩
    case round =>
      obtain ⟨k, hk, rfl, heq, hbw⟩ := hrel
      have HEq := Lib.hid heq
      clear heq
      by_cases hk1 : k < L.length
      · have hk2 : k < M.length := by rw [← HLM.out]; exact hk1
        obtain ⟨g, rfl, hA⟩ := HP.out k hk1
        obtain ⟨g', rfl, hB⟩ := HQ.out k hk2
        obtain ⟨a1, a2, a3, a4, a5, a6⟩ := ev_at hA
        obtain ⟨b1, b2, b3, b4, b5, b6⟩ := ev_at hB
        have a1' := cell_later hbw a1
        have b1' := cell_later hbw b1
        have a2' := cell_later hbw a2
        have b2' := cell_later hbw b2
        have a3' := cell_later hbw a3
        have b3' := cell_later hbw b3
        have a4' := cell_later hbw a4
        have b4' := cell_later hbw b4
        have a5' := cell_later hbw a5
        have b5' := cell_later hbw b5
        have a6' := cell_later hbw a6
        have b6' := cell_later hbw b6
        clear hA hB a1 b1 a2 b2 a3 b3 a4 b4 a5 b5 a6 b6
        by_cases hxy : L.getD k noEv = M.getD k noEv
        · have HK : RowKit.Hid (∀ j, j < k + 1 → L.getD j noEv = M.getD j noEv) := Lib.hid (fun j hj => by
            by_cases h : j = k
            · subst h; exact hxy
            · exact HEq.out j (by omega))
          rw [← hxy] at b1' b2' b3' b4' b5' b6'
          clear hxy
          generalize L.getD k noEv = x at *
          obtain ⟨x1, x2, x3, x4, x5, x6⟩ := x
          simp only at a1' a2' a3' a4' a5' a6' b1' b2' b3' b4' b5' b6'
          go_wp2_with fail
          go_quiet (fail)
          have hbw2 : Below w.heap.size w (wr.drewN nq) := hbw.trans ⟨rfl, rfl, rfl, Nat.le_refl _, fun _ _ => rfl⟩
          generalize wr.drewN nq = wq at *
          go_wp2_with fail
          go_roundw
          case rel => exact ⟨k + 1, by omega, by go_num, HK.out, hbw2⟩
          case measure => simp [RowKit.intOf]; omega
        · have HNe := Lib.hid (evlist_not hxy)
          generalize L.getD k noEv = x at *
          generalize M.getD k noEv = y at *
          obtain ⟨x1, x2, x3, x4, x5, x6⟩ := x
          obtain ⟨y1, y2, y3, y4, y5, y6⟩ := y
          have hd := ev_differ hxy
          simp only at a1' a2' a3' a4' a5' a6' b1' b2' b3' b4' b5' b6'
          clear hxy
          rcases hd with hd | ⟨rfl, hd⟩ | ⟨rfl, rfl, hd⟩ | ⟨rfl, rfl, rfl, hd⟩ | ⟨rfl, rfl, rfl, rfl, hd⟩ | ⟨rfl, rfl, rfl, rfl, rfl, hd⟩
          · have he := beq_eq_false_iff_ne.2 hd
            go_wp2_with fail
            go_quiet (fail)
            have hbw2 : Below w.heap.size w (wr.drewN nq) := hbw.trans ⟨rfl, rfl, rfl, Nat.le_refl _, fun _ _ => rfl⟩
            generalize wr.drewN nq = wq at *
            go_wp2_with fail
            go_ret
            exact ⟨by rw [decide_eq_false HNe.out]; rfl, hbw2⟩
          · have he := beq_eq_false_iff_ne.2 hd
            go_wp2_with fail
            go_quiet (fail)
            have hbw2 : Below w.heap.size w (wr.drewN nq) := hbw.trans ⟨rfl, rfl, rfl, Nat.le_refl _, fun _ _ => rfl⟩
            generalize wr.drewN nq = wq at *
            go_wp2_with fail
            go_ret
            exact ⟨by rw [decide_eq_false HNe.out]; rfl, hbw2⟩
          · have he := beq_eq_false_iff_ne.2 hd
            go_wp2_with fail
            go_quiet (fail)
            have hbw2 : Below w.heap.size w (wr.drewN nq) := hbw.trans ⟨rfl, rfl, rfl, Nat.le_refl _, fun _ _ => rfl⟩
            generalize wr.drewN nq = wq at *
            go_wp2_with fail
            go_ret
            exact ⟨by rw [decide_eq_false HNe.out]; rfl, hbw2⟩
          · have he := beq_eq_false_iff_ne.2 hd
            go_wp2_with fail
            go_quiet (fail)
            have hbw2 : Below w.heap.size w (wr.drewN nq) := hbw.trans ⟨rfl, rfl, rfl, Nat.le_refl _, fun _ _ => rfl⟩
            generalize wr.drewN nq = wq at *
            go_wp2_with fail
            go_ret
            exact ⟨by rw [decide_eq_false HNe.out]; rfl, hbw2⟩
          · have he := beq_eq_false_iff_ne.2 hd
            go_wp2_with fail
            go_quiet (fail)
            have hbw2 : Below w.heap.size w (wr.drewN nq) := hbw.trans ⟨rfl, rfl, rfl, Nat.le_refl _, fun _ _ => rfl⟩
            generalize wr.drewN nq = wq at *
            go_wp2_with fail
            go_ret
            exact ⟨by rw [decide_eq_false HNe.out]; rfl, hbw2⟩
          · have he := beq_eq_false_iff_ne.2 hd
            go_wp2_with fail
            go_quiet (fail)
            have hbw2 : Below w.heap.size w (wr.drewN nq) := hbw.trans ⟨rfl, rfl, rfl, Nat.le_refl _, fun _ _ => rfl⟩
            generalize wr.drewN nq = wq at *
            go_wp2_with fail
            go_ret
            exact ⟨by rw [decide_eq_false HNe.out]; rfl, hbw2⟩
      · have hke : k = L.length := by omega
        subst hke
        have HLL := Lib.hid (evlist_same L M HLM.out HEq.out)
        go_wp2_with fail
        go_ret
        exact ⟨by rw [decide_eq_true HLL.out]; rfl, hbw⟩
  · have HNe := Lib.hid (evlen_not hlm)
    have hlmi : ¬ (((L.length : Nat) : Int) = ((M.length : Nat) : Int)) := by omega
    go_wp2_with fail
    go_ret
    exact ⟨by rw [decide_eq_false HNe.out]; rfl, Below.refl _ _⟩
end Go.Proofs.YtphhgdgamnogpaaDoor
