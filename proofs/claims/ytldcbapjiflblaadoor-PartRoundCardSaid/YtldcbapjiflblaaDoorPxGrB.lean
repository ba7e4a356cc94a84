/-
  Layer 19 (graph): graph.New, walked. No conditions.
-/
import Derived.Test.YtldcbapjiflblaaDoorPxGrA
import Derived.Test.YtldcbapjiflblaaDoorPPe
namespace Go.Proofs.YtldcbapjiflblaaDoor
open Go.RowKit Go.Lib
theorem set_grown {w w' : World} {b : Nat} {W : List Nat} {base size n : Nat} {e : TypeId} {v : Value} {xs : List Value} (h : SetW w b W) (hr : w.ownsRow base e size v n xs) (hne : e ≠ 93) (hg : w.grownBy w' v.ownBlock) : SetW w' b W := ⟨box_grown h.1 hr hne hg, h.2⟩
theorem set_store {w : World} {b g : Nat} {W : List Nat} {t : TypeId} {cs : List Value} (h : SetW w b W) (hg : Blk w g t cs) (hne : t ≠ 93) (i : Nat) (v : Value) : SetW (w.setCell ⟨g, i, none⟩ v) b W := ⟨h.1.far (fun e => blk_ne h.1 hg (fun q => hne q.symm) e) v, h.2⟩
theorem nodup_two {tb fb : List Nat} {g1 g2 : Nat} (h : (tb ++ fb).Nodup) (h1 : ∀ x ∈ tb ++ fb, x < g1) (h2 : ∀ x ∈ tb ++ fb, x < g2) (h12 : g1 < g2) : ((tb ++ [g1]) ++ (fb ++ [g2])).Nodup := by
 rw [List.nodup_append] at h ⊢
 obtain ⟨a, b, c⟩ := h
 refine ⟨?_, ?_, ?_⟩
 ·rw [List.nodup_append]
  refine ⟨a, by simp, fun x hx y hy e => ?_⟩
  have := h1 x (List.mem_append_left _ hx)
  simp at hy
  omega
 ·rw [List.nodup_append]
  refine ⟨b, by simp, fun x hx y hy e => ?_⟩
  have := h2 x (List.mem_append_right _ hx)
  simp at hy
  omega
 ·intro x hx y hy e
  rcases List.mem_append.1 hx with hx | hx <;> rcases List.mem_append.1 hy with hy | hy
  ·exact c x hx y hy e
  ·have := h2 x (List.mem_append_left _ hx)
   simp at hy
   omega
  ·have := h1 y (List.mem_append_right _ hy)
   simp at hx
   omega
  ·simp at hx hy
   omega
theorem new_base {tb fb : List Nat} {B g1 g2 : Nat} (h : ∀ x ∈ tb ++ fb, B ≤ x) (h1 : B ≤ g1) (h2 : B ≤ g2) : ∀ x ∈ (tb ++ [g1]) ++ (fb ++ [g2]), B ≤ x := by
 intro x hx
 rcases List.mem_append.1 hx with hx | hx <;> rcases List.mem_append.1 hx with hx | hx
 ·exact h x (List.mem_append_left _ hx)
 ·simp at hx
  omega
 ·exact h x (List.mem_append_right _ hx)
 ·simp at hx
  omega
set_option maxRecDepth 100000 in
set_option maxHeartbeats 4000000 in
theorem gnew_no (n : Int) (hn : n < 0 ∨ 500 < n) (w : World) : Calls Tryd.prog 27 #[.int .i64 n] w fun e w' => e = .returned (.tuple #[.pointer none, .int .i64 2]) ∧ w' = w := by
 rcases hn with hn | hn
 ·go_enter Tryd.func27, Tryd.ntmps27
  go_wp2_with fail
  go_returns
  exact ⟨rfl, rfl⟩
 ·have h0 : ¬ n < 0 := by omega
  go_enter Tryd.func27, Tryd.ntmps27
  go_wp2_with fail
  go_returns
  exact ⟨rfl, rfl⟩
set_option maxRecDepth 100000 in
set_option maxHeartbeats 4000000 in
theorem gnew_any (n : Nat) (hn : n ≤ 500) (w : World) : Calls Tryd.prog 27 #[.int .i64 (n : Nat)] w fun e w' => e = .returned (.tuple #[.pointer (some ⟨w.heap.size, 0, none⟩), .int .i64 0]) ∧ (∃ tb fb, tb.length = n ∧ fb.length = n ∧ GrW w' w.heap.size w.heap.size tb fb (List.replicate n noB) (List.replicate n noB) 0) ∧ Below w.heap.size w w' := by
 obtain ⟨i0, hi, hz0, hz1, hz2⟩ := info_parts info_ptr
 have HAL := Lib.hid ((Below.refl w.heap.size w).alloc (Nat.le_refl _) (.cells #[.slice none 0 0, .slice none 0 0, .slice none 0 0, .bool true] 69))
 have HG0 := Lib.hid (Blk.new w 69 [.slice none 0 0, .slice none 0 0, .slice none 0 0, .bool true])
 obtain ⟨gb, hgb⟩ : ∃ q, w.heap.size = q := ⟨_, rfl⟩
 have hgB : w.heap.size ≤ gb := by omega
 have HGb := Lib.hid hgb
 rw [hgb] at HG0
 go_enter Tryd.func27, Tryd.ntmps27
 go_wp2_with fail
 try simp only [hgb]
 clear hgb
 go_loopw [14] (fun i wr => ∃ k : Nat, k ≤ n ∧ i = .int .i64 k ∧ ∃ tb fb, tb.length = k ∧ fb.length = k ∧ GrW wr w.heap.size gb tb fb (List.replicate k noB) (List.replicate k noB) 0 ∧ Below w.heap.size w wr) (fun i _ => n - (RowKit.intOf i).toNat)
 case atStart => exact ⟨0, Nat.zero_le _, rfl, [], [], rfl, rfl, ⟨_, _, _, 0, [], HG0.out, World.ownsRow_nil _ _ _ _, World.ownsRow_nil _ _ _ _, World.ownsRow_nil _ _ _ _, (fun k h => by cases h), ⟨rfl, fun i hi => absurd hi (Nat.not_lt_zero i)⟩, ⟨rfl, fun i hi => absurd hi (Nat.not_lt_zero i)⟩, by simp, hgB, (fun x hx => by cases hx), Nat.zero_le _⟩, HAL.out⟩
 case round =>
  obtain ⟨k, hk, rfl, tb, fb, hlt1, hlt2, hgr, hbw⟩ := hrel
  by_cases hlt : k < n
  ·obtain ⟨vt, vf, vr, nr, xr, h1, h2, h3, h4, h5, h6, h7, h8, h9, h10, hnr⟩ := hgr
   rw [hlt1] at h2
   rw [hlt2] at h3
   have HL1 := Lib.hid hlt1
   have HL2 := Lib.hid hlt2
   clear hlt1 hlt2
   obtain ⟨p0, c0, rfl⟩ := owns_form h2
   obtain ⟨p1, c1, rfl⟩ := owns_form h3
   have HG := Lib.hid h1
   have RT := Lib.hid h2
   have RF := Lib.hid h3
   have RR := Lib.hid h4
   have D := Lib.hid h5
   have HT := Lib.hid h6
   have HF := Lib.hid h7
   have HNd := Lib.hid h8
   have HBs := Lib.hid h10
   have HS : RowKit.Hid (∀ w', Blk w' gb 69 [.slice p0 k c0, .slice p1 k c1, vr, .bool true] → w'.cell? ⟨gb, 0, none⟩ = some (.slice p0 k c0) ∧ w'.cell? ⟨gb, 1, none⟩ = some (.slice p1 k c1)) := Lib.hid (fun w' hb => ⟨hb.cell 0 rfl, hb.cell 1 rfl⟩)
   clear h1 h2 h3 h4 h5 h6 h7 h8 h10
   go_wp2_with fail
   refine wp_region_keep (fun w' => w'.cell? ⟨gb, 0, none⟩ = some (.slice p0 k c0) ∧ w'.cell? ⟨gb, 1, none⟩ = some (.slice p1 k c1)) [18, 21] (by kernel_rfl) ?_
   have hB0 : Below w.heap.size w wr.drew := hbw.drew
   replace HG : RowKit.Hid (Blk wr.drew _ _ _) := Lib.hid HG.out
   replace RT : RowKit.Hid (wr.drew.ownsRow _ _ _ _ _ _) := Lib.hid RT.out
   replace RF : RowKit.Hid (wr.drew.ownsRow _ _ _ _ _ _) := Lib.hid RF.out
   replace RR : RowKit.Hid (wr.drew.ownsRow _ _ _ _ _ _) := Lib.hid RR.out
   replace HT : RowKit.Hid (SetsW wr.drew _ _) := Lib.hid HT.out
   replace HF : RowKit.Hid (SetsW wr.drew _ _) := Lib.hid HF.out
   obtain ⟨wd, hwd⟩ : ∃ q, wr.drew = q := ⟨_, rfl⟩
   simp only [hwd] at hB0 HG RT RF RR HT HF ⊢
   clear hwd
   refine wfr 0 (v := ?_) rfl ?_ ?_
   rotate_left
   ·intro w' hw';go_simp;try with_reducible rfl
   try simp only [Act.put, sq]
   refine wfr 1 (v := ?_) rfl ?_ ?_
   rotate_left
   ·intro w' hw';go_simp;try with_reducible rfl
   try simp only [Act.put, sq]
   refine wfr 2 (v := ?_) rfl ?_ ?_
   rotate_left
   ·intro w' hw';go_simp;try with_reducible rfl
   try simp only [Act.put, sq]
   refine wfr 3 (v := ?_) rfl ?_ ?_
   rotate_left
   ·intro w' hw';go_simp;try with_reducible rfl
   try simp only [Act.put, sq]
   refine wfr 4 (v := ?_) rfl ?_ ?_
   rotate_left
   ·intro w' hw';go_simp;try with_reducible rfl
   try simp only [Act.put, sq]
   refine wtk 5 22 (v := ?_) rfl ?_ (HS.out _ HG.out) ?_
   rotate_left
   ·intro w' hw';(try dsimp only at hw');go_simp;try with_reducible rfl
   try simp only [Act.put, sq]
   refine wfr 9 (v := ?_) rfl ?_ ?_
   rotate_left
   ·intro w' hw';go_simp;try with_reducible rfl
   try simp only [Act.put, sq]
   refine wfr 10 (v := ?_) rfl ?_ ?_
   rotate_left
   ·intro w' hw';go_simp;try with_reducible rfl
   try simp only [Act.put, sq]
   refine wfr 11 (v := ?_) rfl ?_ ?_
   rotate_left
   ·intro w' hw';go_simp;try with_reducible rfl
   try simp only [Act.put, sq]
   refine wtk 12 22 (v := ?_) rfl ?_ (HS.out _ HG.out) ?_
   rotate_left
   ·intro w' hw';(try dsimp only at hw');go_simp;try with_reducible rfl
   try simp only [Act.put, sq]
   refine won 6 rfl fun K hK => ?_
   go_simp
   refine (bnew_any _).mono ?_
   rintro e wb1 ⟨rfl, he⟩
   have hc1 : Below wd.heap.size wd wb1 := by rw [he]; exact (Below.refl _ _).alloc (Nat.le_refl _) _
   have N1 : RowKit.Hid (SetW wb1 wd.heap.size noB) := Lib.hid (by rw [he]; exact none_set _)
   have hxN1 : ∀ x ∈ tb ++ fb, x < wd.heap.size := fun x hx => (List.mem_append.1 hx).elim (fun q => HT.out.lt x q) (fun q => HF.out.lt x q)
   have hyN1 : w.heap.size ≤ wd.heap.size := hB0.size
   clear he
   have hB1 := below_next hB0 hc1
   replace HG := Lib.hid (HG.out.later hc1)
   replace RT := Lib.hid (owns_later RT.out hc1)
   replace RF := Lib.hid (owns_later RF.out hc1)
   replace RR := Lib.hid (owns_later RR.out hc1)
   replace HT := Lib.hid (HT.out.later hc1)
   replace HF := Lib.hid (HF.out.later hc1)
   refine hK.out _ _ (fun _ _ => HS.out _ HG.out) ?_
   clear hK K hc1
   obtain ⟨g1, hg1⟩ : ∃ q, wd.heap.size = q := ⟨_, rfl⟩
   rw [hg1] at N1 hxN1 hyN1 ⊢
   clear hg1
   try simp only [Act.put, sq]
   refine won 7 rfl fun K hK => ?_
   go_simp
   have hA2 := hB1.alloc hB1.size (.cells #[.pointer (some ⟨g1, 0, none⟩)] 70)
   have X1 := Lib.hid (Blk.new wb1 70 [.pointer (some ⟨g1, 0, none⟩)])
   replace HG := Lib.hid (HG.out.alloc (.cells #[.pointer (some ⟨g1, 0, none⟩)] 70))
   replace RT := Lib.hid (RT.out.alloc (.cells #[.pointer (some ⟨g1, 0, none⟩)] 70))
   replace RF := Lib.hid (RF.out.alloc (.cells #[.pointer (some ⟨g1, 0, none⟩)] 70))
   replace RR := Lib.hid (RR.out.alloc (.cells #[.pointer (some ⟨g1, 0, none⟩)] 70))
   replace HT := Lib.hid (HT.out.alloc (.cells #[.pointer (some ⟨g1, 0, none⟩)] 70))
   replace HF := Lib.hid (HF.out.alloc (.cells #[.pointer (some ⟨g1, 0, none⟩)] 70))
   replace N1 := Lib.hid (N1.out.alloc (.cells #[.pointer (some ⟨g1, 0, none⟩)] 70))
   refine hK.out _ _ (fun _ _ => HS.out _ HG.out) ?_
   clear hK K
   try simp only [Act.put, sq]
   obtain ⟨wa2, hwa2⟩ : ∃ q, wb1.alloc (.cells #[.pointer (some ⟨g1, 0, none⟩)] 70) = q := ⟨_, rfl⟩
   obtain ⟨gb2, hgb2⟩ : ∃ q, wb1.heap.size = q := ⟨_, rfl⟩
   have hlt2 : w.heap.size ≤ gb2 := by rw [← hgb2]; exact hB1.size
   simp only [hwa2, hgb2] at hA2 HG RT RF RR D HT HF N1 X1 ⊢
   clear hwa2 hgb2
   refine won 8 rfl fun K hK => ?_
   refine step_append_own_at (by rfl) _ _ 67 (by rfl) w.heap.size 70 i0 (.pointer none) 1 8 Tryd.underlying67 hi hz0 hz1 hz2 rfl (by decide) (.slice p0 k c0) k (ptrsG tb) (by rfl) RT.out ⟨gb2, 0, none⟩ 1 1 [.pointer (some ⟨g1, 0, none⟩)] (by rfl) rfl (fun q u hq => by rw [Addr.add_lit, Nat.zero_add]; exact X1.out.cell q hq) (ones_ptrG _) (by unfold maxLen; omega) (by omega) hA2.size ?_
   intro v3 wa3 hown3 hg3 hat3
   rw [ptrs_snoc] at hown3
   have hA3 : Below w.heap.size w wa3 := hA2.grown hg3 hA2.size (fun k hk => (RT.out.lt k hk).1)
   have D2 := Lib.hid (Parted.grow (D.out) hat3 RF.out)
   replace RF := Lib.hid (owns_beside RF.out hg3 (fun k h1 h2 => (D.out) k h2 h1))
   replace D := Lib.hid D2.out
   clear D2
   replace HG := Lib.hid (box_grown HG.out RT.out (by decide) hg3)
   replace RR := Lib.hid (owns_other RR.out RT.out (by decide) hg3)
   replace HT := Lib.hid (HT.out.grown RT.out (by decide) hg3)
   replace HF := Lib.hid (HF.out.grown RT.out (by decide) hg3)
   replace N1 := Lib.hid (set_grown N1.out RT.out (by decide) hg3)
   clear X1
   obtain ⟨p3, c3, rfl⟩ := owns_form hown3
   replace RT := Lib.hid hown3
   clear hown3 hg3 hat3
   refine hK.out _ _ (fun _ _ => HS.out _ HG.out) ?_
   clear hK K
   try simp only [Act.put, sq]
   refine won 13 rfl fun K hK => ?_
   go_simp
   refine (bnew_any _).mono ?_
   rintro e wb4 ⟨rfl, he⟩
   have hc4 : Below wa3.heap.size wa3 wb4 := by rw [he]; exact (Below.refl _ _).alloc (Nat.le_refl _) _
   have N2 : RowKit.Hid (SetW wb4 wa3.heap.size noB) := Lib.hid (by rw [he]; exact none_set _)
   have hxN2 : ∀ x ∈ tb ++ fb, x < wa3.heap.size := fun x hx => (List.mem_append.1 hx).elim (fun q => HT.out.lt x q) (fun q => HF.out.lt x q)
   have hyN2 : w.heap.size ≤ wa3.heap.size := hA3.size
   have h12 : g1 < wa3.heap.size := N1.out.1.lt
   clear he
   have hB4 := below_next hA3 hc4
   replace HG := Lib.hid (HG.out.later hc4)
   replace RT := Lib.hid (owns_later RT.out hc4)
   replace RF := Lib.hid (owns_later RF.out hc4)
   replace RR := Lib.hid (owns_later RR.out hc4)
   replace HT := Lib.hid (HT.out.later hc4)
   replace HF := Lib.hid (HF.out.later hc4)
   replace N1 := Lib.hid (N1.out.later hc4)
   refine hK.out _ _ (fun _ _ => HS.out _ HG.out) ?_
   clear hK K hc4
   obtain ⟨g2, hg2⟩ : ∃ q, wa3.heap.size = q := ⟨_, rfl⟩
   rw [hg2] at N2 hxN2 hyN2 h12 ⊢
   clear hg2
   try simp only [Act.put, sq]
   refine won 14 rfl fun K hK => ?_
   go_simp
   have hA5 := hB4.alloc hB4.size (.cells #[.pointer (some ⟨g2, 0, none⟩)] 70)
   have X2 := Lib.hid (Blk.new wb4 70 [.pointer (some ⟨g2, 0, none⟩)])
   replace HG := Lib.hid (HG.out.alloc (.cells #[.pointer (some ⟨g2, 0, none⟩)] 70))
   replace RT := Lib.hid (RT.out.alloc (.cells #[.pointer (some ⟨g2, 0, none⟩)] 70))
   replace RF := Lib.hid (RF.out.alloc (.cells #[.pointer (some ⟨g2, 0, none⟩)] 70))
   replace RR := Lib.hid (RR.out.alloc (.cells #[.pointer (some ⟨g2, 0, none⟩)] 70))
   replace HT := Lib.hid (HT.out.alloc (.cells #[.pointer (some ⟨g2, 0, none⟩)] 70))
   replace HF := Lib.hid (HF.out.alloc (.cells #[.pointer (some ⟨g2, 0, none⟩)] 70))
   replace N1 := Lib.hid (N1.out.alloc (.cells #[.pointer (some ⟨g2, 0, none⟩)] 70))
   replace N2 := Lib.hid (N2.out.alloc (.cells #[.pointer (some ⟨g2, 0, none⟩)] 70))
   refine hK.out _ _ (fun _ _ => HS.out _ HG.out) ?_
   clear hK K
   try simp only [Act.put, sq]
   obtain ⟨wa5, hwa5⟩ : ∃ q, wb4.alloc (.cells #[.pointer (some ⟨g2, 0, none⟩)] 70) = q := ⟨_, rfl⟩
   obtain ⟨gb5, hgb5⟩ : ∃ q, wb4.heap.size = q := ⟨_, rfl⟩
   have hlt5 : w.heap.size ≤ gb5 := by rw [← hgb5]; exact hB4.size
   simp only [hwa5, hgb5] at hA5 HG RT RF RR D HT HF N1 N2 X2 ⊢
   clear hwa5 hgb5
   refine won 15 rfl fun K hK => ?_
   refine step_append_own_at (by rfl) _ _ 67 (by rfl) w.heap.size 70 i0 (.pointer none) 1 8 Tryd.underlying67 hi hz0 hz1 hz2 rfl (by decide) (.slice p1 k c1) k (ptrsG fb) (by rfl) RF.out ⟨gb5, 0, none⟩ 1 1 [.pointer (some ⟨g2, 0, none⟩)] (by rfl) rfl (fun q u hq => by rw [Addr.add_lit, Nat.zero_add]; exact X2.out.cell q hq) (ones_ptrG _) (by unfold maxLen; omega) (by omega) hA5.size ?_
   intro v6 wa6 hown6 hg6 hat6
   rw [ptrs_snoc] at hown6
   have hA6 : Below w.heap.size w wa6 := hA5.grown hg6 hA5.size (fun k hk => (RF.out.lt k hk).1)
   have D2 := Lib.hid (Parted.grow (D.out.flip) hat6 RT.out)
   replace RT := Lib.hid (owns_beside RT.out hg6 (fun k h1 h2 => (D.out.flip) k h2 h1))
   replace D := Lib.hid D2.out
   clear D2
   replace HG := Lib.hid (box_grown HG.out RF.out (by decide) hg6)
   replace RR := Lib.hid (owns_other RR.out RF.out (by decide) hg6)
   replace HT := Lib.hid (HT.out.grown RF.out (by decide) hg6)
   replace HF := Lib.hid (HF.out.grown RF.out (by decide) hg6)
   replace N1 := Lib.hid (set_grown N1.out RF.out (by decide) hg6)
   replace N2 := Lib.hid (set_grown N2.out RF.out (by decide) hg6)
   clear X2
   obtain ⟨p6, c6, rfl⟩ := owns_form hown6
   replace RF := Lib.hid hown6
   clear hown6 hg6 hat6
   refine hK.out _ _ (fun _ _ => HS.out _ HG.out) ?_
   clear hK K
   try simp only [Act.put, sq]
   refine won 16 rfl fun K hK => ?_
   go_simp
   refine hK.out _ _ (fun _ h => h) ?_
   clear hK K
   try simp only [Act.put, sq]
   refine won 17 rfl fun K hK => ?_
   go_simp
   refine hK.out _ _ (fun _ h => h) ?_
   clear hK K
   try simp only [Act.put, sq]
   refine won 18 rfl fun K hK => ?_
   have f7 := HG.out.frozen 0
   have q7 := HG.out.cell 0 rfl
   go_simp
   refine hK.out _ _ (fun h => absurd h (by decide)) ?_
   clear hK K f7 q7
   try simp only [Act.put, sq]
   have hA7 : Below w.heap.size w (wa6.setCell ⟨gb, 0, none⟩ (.slice p3 (k + 1) c3)) := hA6.setCell (p := ⟨gb, 0, none⟩) hgB _
   replace RT := Lib.hid (owns_store RT.out HG.out (by decide) 0 (.slice p3 (k + 1) c3))
   replace RF := Lib.hid (owns_store RF.out HG.out (by decide) 0 (.slice p3 (k + 1) c3))
   replace RR := Lib.hid (owns_store RR.out HG.out (by decide) 0 (.slice p3 (k + 1) c3))
   replace HT := Lib.hid (HT.out.store HG.out (by decide) 0 (.slice p3 (k + 1) c3))
   replace HF := Lib.hid (HF.out.store HG.out (by decide) 0 (.slice p3 (k + 1) c3))
   replace N1 := Lib.hid (set_store N1.out HG.out (by decide) 0 (.slice p3 (k + 1) c3))
   replace N2 := Lib.hid (set_store N2.out HG.out (by decide) 0 (.slice p3 (k + 1) c3))
   replace HG := Lib.hid (HG.out.set 0 (.slice p3 (k + 1) c3))
   obtain ⟨wa7, hwa7⟩ : ∃ q, wa6.setCell ⟨gb, 0, none⟩ (.slice p3 (k + 1) c3) = q := ⟨_, rfl⟩
   simp only [hwa7] at hA7 RT RF RR HT HF N1 N2 HG ⊢
   clear hwa7
   refine won 19 rfl fun K hK => ?_
   go_simp
   refine hK.out _ _ (fun _ h => h) ?_
   clear hK K
   try simp only [Act.put, sq]
   refine won 20 rfl fun K hK => ?_
   go_simp
   refine hK.out _ _ (fun _ h => h) ?_
   clear hK K
   try simp only [Act.put, sq]
   refine won 21 rfl fun K hK => ?_
   have f8 := HG.out.frozen 1
   have q8 := HG.out.cell 1 rfl
   go_simp
   refine hK.out _ _ (fun h => absurd h (by decide)) ?_
   clear hK K f8 q8
   try simp only [Act.put, sq]
   have hA8 : Below w.heap.size w (wa7.setCell ⟨gb, 1, none⟩ (.slice p6 (k + 1) c6)) := hA7.setCell (p := ⟨gb, 1, none⟩) hgB _
   replace RT := Lib.hid (owns_store RT.out HG.out (by decide) 1 (.slice p6 (k + 1) c6))
   replace RF := Lib.hid (owns_store RF.out HG.out (by decide) 1 (.slice p6 (k + 1) c6))
   replace RR := Lib.hid (owns_store RR.out HG.out (by decide) 1 (.slice p6 (k + 1) c6))
   replace HT := Lib.hid (HT.out.store HG.out (by decide) 1 (.slice p6 (k + 1) c6))
   replace HF := Lib.hid (HF.out.store HG.out (by decide) 1 (.slice p6 (k + 1) c6))
   replace N1 := Lib.hid (set_store N1.out HG.out (by decide) 1 (.slice p6 (k + 1) c6))
   replace N2 := Lib.hid (set_store N2.out HG.out (by decide) 1 (.slice p6 (k + 1) c6))
   replace HG := Lib.hid (HG.out.set 1 (.slice p6 (k + 1) c6))
   obtain ⟨wa8, hwa8⟩ : ∃ q, wa7.setCell ⟨gb, 1, none⟩ (.slice p6 (k + 1) c6) = q := ⟨_, rfl⟩
   simp only [hwa8] at hA8 RT RF RR HT HF N1 N2 HG ⊢
   clear hwa8
   refine wpAnyM_done (by kernel_rfl) ?_ _
   try simp only [Act.put, sq]
   have HB9 := Lib.hid hA8
   go_wp2_with fail
   go_roundw
   case rel => exact ⟨k + 1, by omega, by go_num, tb ++ [g1], fb ++ [g2], by rw [List.length_append, HL1.out]; rfl, by rw [List.length_append, HL2.out]; rfl, ⟨_, _, vr, nr, xr, HG.out, by rw [List.length_append, HL1.out]; exact RT.out, by rw [List.length_append, HL2.out]; exact RF.out, RR.out, D.out.flip, by rw [List.replicate_succ']; exact HT.out.snoc N1.out, by rw [List.replicate_succ']; exact HF.out.snoc N2.out, nodup_two HNd.out hxN1 hxN2 h12, hgB, new_base HBs.out hyN1 hyN2, hnr⟩, HB9.out⟩
   case measure => simp [RowKit.intOf]; omega
  ·have hke : k = n := by omega
   subst hke
   go_wp2_with fail
   go_returns
   rw [← HGb.out] at hgr
   exact ⟨by rw [HGb.out] <;> rfl, ⟨tb, fb, hlt1, hlt2, hgr⟩, hbw⟩
end Go.Proofs.YtldcbapjiflblaaDoor
