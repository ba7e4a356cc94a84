/-
  The walks of layer 11's statements (hist): the sample; the chapter's example. No conditions but that unicode/utf8's two tables are as their initialisers lay them.
-/
import Derived.Test.YthalbcmlehpfaaaDoorHistK
import Derived.Test.YthalbcmlehpfaaaDoorHistH
namespace Go.Proofs.YthalbcmlehpfaaaDoor
open Go.RowKit Go.Lib

def sampleH : HistM := ([[115]], [[120]], [(0, 1, [(false, 0, 2, 0)]), (0, 3, [])])
theorem sample_may : mayH sampleH = true := by decide +kernel
theorem sample_a01 : aheadH sampleH 0 1 = true := by decide +kernel
theorem sample_a10 : aheadH sampleH 1 0 = false := by decide +kernel
theorem sample_infos : whereL infosP sampleH = [1] := by decide +kernel
theorem sample_lost : lostL sampleH = [(0, 0)] := by decide +kernel
theorem sample_modst : Modst sampleH := by
  refine ⟨by decide, by decide, by decide, ?_, ?_, ?_⟩ <;> simp [sampleH]

/-! ### The contracts over a history's value -/
theorem hmay_v {w : World} {v : Value} {h : HistM} (hv : HistV w v h) (hm : Modst h) (hT : Lib.Utf8Tabs 0 1 w) : Calls Tryd.prog 20 #[v] w fun e w' => e = .returned (.int .i64 (errH h)) ∧ Below w.heap.size w w' := by
  obtain ⟨v0, v1, v2, rfl, h0, h1, h2⟩ := hv
  exact hmay_any v0 v1 v2 h w h0 h1 h2 hm hT
theorem rmay_v {w : World} {v : Value} {h : HistM} (hv : HistV w v h) (hm : Modst h) : Calls Tryd.prog 11 #[v] w fun e w' => e = .returned (.int .i64 (errH h)) ∧ Below w.heap.size w w' := by
  obtain ⟨v0, v1, v2, rfl, h0, h1, h2⟩ := hv
  exact rmay_any v0 v1 v2 h w h0 h1 h2 hm
theorem ahead_v {w : World} {v : Value} {h : HistM} (a b : Int) (hv : HistV w v h) (hm : Modst h) (hT : Lib.Utf8Tabs 0 1 w) : Calls Tryd.prog 22 #[v, .int .i64 a, .int .i64 b] w fun e w' => e = .returned (.bool (aheadH h a b)) ∧ Below w.heap.size w w' := by
  obtain ⟨v0, v1, v2, rfl, h0, h1, h2⟩ := hv
  exact ahead_any v0 v1 v2 h a b w h0 h1 h2 hm hT
theorem rahead_v {w : World} {v : Value} {h : HistM} (a b : Int) (hv : HistV w v h) (hm : Modst h) : Calls Tryd.prog 23 #[v, .int .i64 a, .int .i64 b] w fun e w' => e = .returned (.bool (aheadH h a b)) ∧ Below w.heap.size w w' := by
  obtain ⟨v0, v1, v2, rfl, h0, h1, h2⟩ := hv
  exact rahead_any v0 v1 v2 h a b w h0 h1 h2 hm
theorem session_v {w : World} {v : Value} {h : HistM} (s : Int) (hv : HistV w v h) (hm : Modst h) (hT : Lib.Utf8Tabs 0 1 w) : Calls Tryd.prog 21 #[v, .int .i64 s] w fun e w' => ∃ v', e = .returned v' ∧ IntsS w' v' (whereL (sessP s) h) ∧ Below w.heap.size w w' := by
  obtain ⟨v0, v1, v2, rfl, h0, h1, h2⟩ := hv
  exact session_any v0 v1 v2 h s w h0 h1 h2 hm hT
theorem infos_v {w : World} {v : Value} {h : HistM} (hv : HistV w v h) (hm : Modst h) (hT : Lib.Utf8Tabs 0 1 w) : Calls Tryd.prog 15 #[v] w fun e w' => ∃ v', e = .returned v' ∧ IntsS w' v' (whereL infosP h) ∧ Below w.heap.size w w' := by
  obtain ⟨v0, v1, v2, rfl, h0, h1, h2⟩ := hv
  exact infos_any v0 v1 v2 h w h0 h1 h2 hm hT
theorem lost_v {w : World} {v : Value} {h : HistM} (hv : HistV w v h) (hm : Modst h) (hT : Lib.Utf8Tabs 0 1 w) : Calls Tryd.prog 17 #[v] w fun e w' => ∃ v', e = .returned v' ∧ PlacesS w' v' (lostL h) ∧ Below w.heap.size w w' := by
  obtain ⟨v0, v1, v2, rfl, h0, h1, h2⟩ := hv
  exact lost_any v0 v1 v2 h w h0 h1 h2 hm hT
theorem rsession_v {w : World} {v : Value} {h : HistM} (s : Int) (hv : HistV w v h) (hm : Modst h) : Calls Tryd.prog 19 #[v, .int .i64 s] w fun e w' => ∃ v', e = .returned v' ∧ IntsS w' v' (idxs (sessP s) h.2.2 h.2.2.length) ∧ Below w.heap.size w w' := by
  obtain ⟨v0, v1, v2, rfl, h0, h1, h2⟩ := hv
  exact rsession_any v0 v1 v2 h s w h0 h1 h2 hm
theorem rinfos_v {w : World} {v : Value} {h : HistM} (hv : HistV w v h) (hm : Modst h) : Calls Tryd.prog 12 #[v] w fun e w' => ∃ v', e = .returned v' ∧ IntsS w' v' (idxs infosP h.2.2 h.2.2.length) ∧ Below w.heap.size w w' := by
  obtain ⟨v0, v1, v2, rfl, h0, h1, h2⟩ := hv
  exact rinfos_any v0 v1 v2 h w h0 h1 h2 hm
theorem rlost_v {w : World} {v : Value} {h : HistM} (hv : HistV w v h) (hm : Modst h) : Calls Tryd.prog 13 #[v] w fun e w' => ∃ v', e = .returned v' ∧ PlacesS w' v' (lostI (itH h.2.2 h.2.2.length)) ∧ Below w.heap.size w w' := by
  obtain ⟨v0, v1, v2, rfl, h0, h1, h2⟩ := hv
  exact rlost_any v0 v1 v2 h w h0 h1 h2 hm

theorem sample_v (w : World) (b1 b2 b3 b4 : Nat) (k1 : Blk w b1 9 [.string (bs [115])]) (k2 : Blk w b2 9 [.string (bs [120])]) (k3 : Blk w b3 62 [.bool false, .int .i64 0, .int .i64 2, .int .i64 0])
    (k4 : Blk w b4 56 [.int .i64 0, .int .i64 1, .slice (some ⟨b3, 0, none⟩) 1 1, .int .i64 0, .int .i64 3, .slice none 0 0]) : HistV w (.agg #[.slice (some ⟨b1, 0, none⟩) 1 1, .slice (some ⟨b2, 0, none⟩) 1 1, .slice (some ⟨b4, 0, none⟩) 2 2]) sampleH := by
  refine ⟨_, _, _, rfl, ⟨_, 1, rfl, fun j hj => ⟨b1, rfl, ?_⟩⟩, ⟨_, 1, rfl, fun j hj => ⟨b2, rfl, ?_⟩⟩, ⟨_, 2, rfl, fun j hj => ?_⟩⟩
  · match j, hj with
    | 0, _ => exact k1.cell 0 rfl
  · match j, hj with
    | 0, _ => exact k2.cell 0 rfl
  · match j, hj with
    | 0, _ => exact ⟨b4, _, rfl, k4.cell 0 rfl, k4.cell 1 rfl, k4.cell 2 rfl, ⟨_, 1, rfl, fun i hi => by
        match i, hi with
        | 0, _ => exact ⟨b3, rfl, k3.cell 0 rfl, k3.cell 1 rfl, k3.cell 2 rfl, k3.cell 3 rfl⟩⟩⟩
    | 1, _ => exact ⟨b4, _, rfl, k4.cell 3 rfl, k4.cell 4 rfl, k4.cell 5 rfl, ⟨none, 0, rfl, fun i hi => absurd hi (Nat.not_lt_zero i)⟩⟩

set_option maxRecDepth 100000 in
set_option maxHeartbeats 1000000 in
theorem sample_any (w : World) : Calls Tryd.prog 44 #[] w fun e w' => ∃ v', e = .returned v' ∧ HistV w' v' sampleH ∧ Below w.heap.size w w' := by
  have r0 := Blk.new w 25 [.slice (some ⟨w.heap.size + 1, 0, none⟩) 1 1, .slice (some ⟨w.heap.size + 1 + 1, 0, none⟩) 1 1, .slice (some ⟨w.heap.size + 1 + 1 + 1 + 1, 0, none⟩) 2 2]
  replace r0 := r0.alloc (.cells #[.string (bs [115])] 9)
  replace r0 := r0.alloc (.cells #[.string (bs [120])] 9)
  replace r0 := r0.alloc (.cells #[.bool false, .int .i64 0, .int .i64 2, .int .i64 0] 62)
  replace r0 := r0.alloc (.cells #[.int .i64 0, .int .i64 1, .slice (some ⟨w.heap.size + 1 + 1 + 1, 0, none⟩) 1 1, .int .i64 0, .int .i64 3, .slice none 0 0] 56)
  have r1 := Blk.new (w.alloc (.cells #[.slice (some ⟨w.heap.size + 1, 0, none⟩) 1 1, .slice (some ⟨w.heap.size + 1 + 1, 0, none⟩) 1 1, .slice (some ⟨w.heap.size + 1 + 1 + 1 + 1, 0, none⟩) 2 2] 25)) 9 [.string (bs [115])]
  simp only [World.size_alloc] at r1
  replace r1 := r1.alloc (.cells #[.string (bs [120])] 9)
  replace r1 := r1.alloc (.cells #[.bool false, .int .i64 0, .int .i64 2, .int .i64 0] 62)
  replace r1 := r1.alloc (.cells #[.int .i64 0, .int .i64 1, .slice (some ⟨w.heap.size + 1 + 1 + 1, 0, none⟩) 1 1, .int .i64 0, .int .i64 3, .slice none 0 0] 56)
  have r2 := Blk.new ((w.alloc (.cells #[.slice (some ⟨w.heap.size + 1, 0, none⟩) 1 1, .slice (some ⟨w.heap.size + 1 + 1, 0, none⟩) 1 1, .slice (some ⟨w.heap.size + 1 + 1 + 1 + 1, 0, none⟩) 2 2] 25)).alloc (.cells #[.string (bs [115])] 9)) 9 [.string (bs [120])]
  simp only [World.size_alloc] at r2
  replace r2 := r2.alloc (.cells #[.bool false, .int .i64 0, .int .i64 2, .int .i64 0] 62)
  replace r2 := r2.alloc (.cells #[.int .i64 0, .int .i64 1, .slice (some ⟨w.heap.size + 1 + 1 + 1, 0, none⟩) 1 1, .int .i64 0, .int .i64 3, .slice none 0 0] 56)
  have r3 := Blk.new (((w.alloc (.cells #[.slice (some ⟨w.heap.size + 1, 0, none⟩) 1 1, .slice (some ⟨w.heap.size + 1 + 1, 0, none⟩) 1 1, .slice (some ⟨w.heap.size + 1 + 1 + 1 + 1, 0, none⟩) 2 2] 25)).alloc (.cells #[.string (bs [115])] 9)).alloc (.cells #[.string (bs [120])] 9)) 62 [.bool false, .int .i64 0, .int .i64 2, .int .i64 0]
  simp only [World.size_alloc] at r3
  replace r3 := r3.alloc (.cells #[.int .i64 0, .int .i64 1, .slice (some ⟨w.heap.size + 1 + 1 + 1, 0, none⟩) 1 1, .int .i64 0, .int .i64 3, .slice none 0 0] 56)
  have r4 := Blk.new ((((w.alloc (.cells #[.slice (some ⟨w.heap.size + 1, 0, none⟩) 1 1, .slice (some ⟨w.heap.size + 1 + 1, 0, none⟩) 1 1, .slice (some ⟨w.heap.size + 1 + 1 + 1 + 1, 0, none⟩) 2 2] 25)).alloc (.cells #[.string (bs [115])] 9)).alloc (.cells #[.string (bs [120])] 9)).alloc (.cells #[.bool false, .int .i64 0, .int .i64 2, .int .i64 0] 62)) 56 [.int .i64 0, .int .i64 1, .slice (some ⟨w.heap.size + 1 + 1 + 1, 0, none⟩) 1 1, .int .i64 0, .int .i64 3, .slice none 0 0]
  simp only [World.size_alloc] at r4
  have hb : Below w.heap.size w (((((w.alloc (.cells #[.slice (some ⟨w.heap.size + 1, 0, none⟩) 1 1, .slice (some ⟨w.heap.size + 1 + 1, 0, none⟩) 1 1, .slice (some ⟨w.heap.size + 1 + 1 + 1 + 1, 0, none⟩) 2 2] 25)).alloc (.cells #[.string (bs [115])] 9)).alloc (.cells #[.string (bs [120])] 9)).alloc (.cells #[.bool false, .int .i64 0, .int .i64 2, .int .i64 0] 62)).alloc (.cells #[.int .i64 0, .int .i64 1, .slice (some ⟨w.heap.size + 1 + 1 + 1, 0, none⟩) 1 1, .int .i64 0, .int .i64 3, .slice none 0 0] 56)) := (((((Below.refl _ w).alloc (Nat.le_refl _) _).alloc (by simp) _).alloc (by simp; omega) _).alloc (by simp; omega) _).alloc (by simp; omega) _
  have R1 := Lib.hid r0
  have R2 := Lib.hid (sample_v (((((w.alloc (.cells #[.slice (some ⟨w.heap.size + 1, 0, none⟩) 1 1, .slice (some ⟨w.heap.size + 1 + 1, 0, none⟩) 1 1, .slice (some ⟨w.heap.size + 1 + 1 + 1 + 1, 0, none⟩) 2 2] 25)).alloc (.cells #[.string (bs [115])] 9)).alloc (.cells #[.string (bs [120])] 9)).alloc (.cells #[.bool false, .int .i64 0, .int .i64 2, .int .i64 0] 62)).alloc (.cells #[.int .i64 0, .int .i64 1, .slice (some ⟨w.heap.size + 1 + 1 + 1, 0, none⟩) 1 1, .int .i64 0, .int .i64 3, .slice none 0 0] 56)) _ _ _ _ r1 r2 r3 r4)
  have R3 := Lib.hid hb
  clear r0 r1 r2 r3 r4 hb
  go_enter Tryd.func44, Tryd.ntmps44
  go_wp2_with fail
  have c0 := R1.out.cell 0 rfl
  have c1 := R1.out.cell 1 rfl
  have c2 := R1.out.cell 2 rfl
  refine bodyPost_ret (v := .agg #[.slice (some ⟨w.heap.size + 1, 0, none⟩) 1 1, .slice (some ⟨w.heap.size + 1 + 1, 0, none⟩) 1 1, .slice (some ⟨w.heap.size + 1 + 1 + 1 + 1, 0, none⟩) 2 2]) ?_ rfl ⟨_, rfl, R2.out, R3.out⟩
  simp only [← str_const] at c0 c1 c2
  simp [results, Tryd.results44, go_sem, c0, c1, c2]

set_option maxRecDepth 100000 in
set_option maxHeartbeats 2000000 in
theorem works11_any (w : World) (hT : Lib.Utf8Tabs 0 1 w) : Calls Tryd.prog 18 #[] w fun e w' => e = .returned (.bool true) ∧ Below w.heap.size w w' := by
  have HT := Lib.hid hT
  have HS := Lib.hid sample_any
  have H1 := Lib.hid (fun w' v (hv : HistV w' v sampleH) hT' => hmay_v hv sample_modst hT')
  have H2 := Lib.hid (fun w' v (hv : HistV w' v sampleH) hT' => ahead_v 0 1 hv sample_modst hT')
  have H3 := Lib.hid (fun w' v (hv : HistV w' v sampleH) hT' => ahead_v 1 0 hv sample_modst hT')
  have H4 := Lib.hid (fun w' v (hv : HistV w' v sampleH) hT' => infos_v hv sample_modst hT')
  have H5 := Lib.hid (fun w' v (hv : HistV w' v sampleH) hT' => lost_v hv sample_modst hT')
  rw [err_yes sample_may] at H1
  rw [sample_a01] at H2
  rw [sample_a10] at H3
  rw [sample_infos] at H4
  rw [sample_lost] at H5
  clear hT
  go_enter Tryd.func18, Tryd.ntmps18
  go_wp2_with fail
  refine (HS.out _).mono ?_
  rintro e w1 ⟨v1, rfl, hv1, hb1⟩
  have hw1 := hb1
  go_wp2_with fail
  refine (H1.out _ _ hv1 (Utf8Tabs_below HT.out hw1)).mono ?_
  rintro e w2 ⟨rfl, hb2⟩
  have hw2 := below_next hw1 hb2
  clear hb2 hv1
  go_wp2_with fail
  refine (HS.out _).mono ?_
  rintro e w3 ⟨v3, rfl, hv3, hb3⟩
  have hw3 := below_next hw2 hb3
  go_wp2_with fail
  refine (H2.out _ _ hv3 (Utf8Tabs_below HT.out hw3)).mono ?_
  rintro e w4 ⟨rfl, hb4⟩
  have hw4 := below_next hw3 hb4
  clear hb4 hv3
  go_wp2_with fail
  refine (HS.out _).mono ?_
  rintro e w5 ⟨v5, rfl, hv5, hb5⟩
  have hw5 := below_next hw4 hb5
  go_wp2_with fail
  refine (H3.out _ _ hv5 (Utf8Tabs_below HT.out hw5)).mono ?_
  rintro e w6 ⟨rfl, hb6⟩
  have hw6 := below_next hw5 hb6
  clear hb6 hv5
  go_wp2_with fail
  refine (HS.out _).mono ?_
  rintro e w7 ⟨v7, rfl, hv7, hb7⟩
  have hw7 := below_next hw6 hb7
  go_wp2_with fail
  refine (H4.out _ _ hv7 (Utf8Tabs_below HT.out hw7)).mono ?_
  rintro e w8 ⟨v8, rfl, hi8, hb8⟩
  have hw8 := below_next hw7 hb8
  clear hb8 hv7
  go_wp2_with fail
  have hx := hw8.alloc hw8.size (.cells #[.int .i64 1] 3)
  have hone : IntsS (w8.alloc (.cells #[.int .i64 1] 3)) (.slice (some ⟨w8.heap.size, 0, none⟩) 1 1) [1] := ⟨_, 1, rfl, fun q hq => ⟨_, rfl, by
    match q, hq with
    | 0, _ => exact (Blk.new w8 3 [.int .i64 1]).cell 0 rfl⟩⟩
  refine (sameints_any _ _ _ [1] [1] (hi8.below ((Below.refl _ _).alloc (Nat.le_refl _) _)) hone (by simp)).mono ?_
  rintro e w9 ⟨rfl, hb9⟩
  rw [beq_self_eq_true]
  have hw9 := below_next hx hb9
  clear hb9 hi8 hone hx
  go_wp2_with fail
  refine (HS.out _).mono ?_
  rintro e w10 ⟨v10, rfl, hv10, hb10⟩
  have hw10 := below_next hw9 hb10
  go_wp2_with fail
  refine (H5.out _ _ hv10 (Utf8Tabs_below HT.out hw10)).mono ?_
  rintro e w11 ⟨v11, rfl, ⟨pl, cl, rfl, -⟩, hb11⟩
  have hw11 := below_next hw10 hb11
  clear hb11 hv10
  go_wp2_with fail
  go_ret
  exact ⟨rfl, hw11⟩
end Go.Proofs.YthalbcmlehpfaaaDoor
