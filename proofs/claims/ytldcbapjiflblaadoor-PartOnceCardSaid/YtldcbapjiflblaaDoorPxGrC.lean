/-
  Layer 19 (graph): an edge put in, and a graph made of edges, walked. No conditions.
-/
import Derived.Test.YtldcbapjiflblaaDoorPxGrA
namespace Go.Proofs.YtldcbapjiflblaaDoor
open Go.RowKit Go.Lib
theorem owns_set {w w' : World} {base size n x : Nat} {e : TypeId} {v : Value} {xs : List Value} {W : List Nat} (h : w.ownsRow base e size v n xs) (hs : SetW w x W) (hne : e ≠ 93) (hg : w.grownBy w' (some x)) : w'.ownsRow base e size v n xs := by
 refine owns_beside h hg fun k hk he => ?_
 injection he with he
 subst he
 rcases h.2 with ⟨rfl, -⟩ | ⟨g, cap, cur, rfl, -, hw, -⟩
 ·cases hk
 ·have e1 : g = x := by simpa [Value.ownBlock] using hk
  subst e1
  have hs' : w.heap[g]? = some (.cells (wordsB W).toArray 93 (0, 0)) := hs.1
  rw [hw] at hs'
  injection hs' with hs'
  injection hs' with _ hs'
  exact hne hs'
theorem below_at {w w' : World} {B x : Nat} (hg : w.grownBy w' (some x)) (hx : B ≤ x) (hB : B ≤ w.heap.size) : Below B w w' := (Below.refl B w).grown hg hB (fun k hk => by
 have e1 : x = k := by simpa using hk
 omega)
theorem own_one {w : World} {B n : Nat} {e : TypeId} {v : Value} {xs : List Value} (h : w.ownsRow B e 1 v n xs) (hn : 0 < n) : ∃ g c, v = .slice (some ⟨g, 0, none⟩) n c := by
 rcases h.2 with ⟨-, q⟩ | ⟨g, c, cur, q, -⟩
 ·omega
 ·exact ⟨g, c, q⟩
theorem put_spec (T : List (List Nat)) (a b : Nat) (ha : a < T.length) (hb : b / 64 < (T.getD a []).length) (x y : Nat) : hasB ((T.set a (putB (T.getD a []) b)).getD x []) y = (hasB (T.getD x []) y || (decide (x = a) && decide (y = b))) := by
 by_cases e : x = a
 ·subst e
  rw [show (T.set x (putB (T.getD x []) b)).getD x [] = putB (T.getD x []) b by simp [List.getD, ha], has_put _ _ _ hb]
  simp
 ·rw [show (T.set a (putB (T.getD a []) b)).getD x [] = T.getD x [] by simp only [List.getD_eq_getElem?_getD]; rw [List.getElem?_set_ne (fun q => e q.symm)]]
  simp [e]
theorem notin_right {tb fb : List Nat} (h : (tb ++ fb).Nodup) (a : Nat) (ha : a < tb.length) : tb.getD a 0 ∉ fb := fun hm => by
 rw [List.nodup_append] at h
 refine h.2.2 (tb.getD a 0) ?_ _ hm rfl
 rw [show tb.getD a 0 = tb[a] by simp [ha]]
 exact List.getElem_mem ha
theorem notin_left {tb fb : List Nat} (h : (tb ++ fb).Nodup) (a : Nat) (ha : a < fb.length) : fb.getD a 0 ∉ tb := fun hm => by
 rw [List.nodup_append] at h
 refine h.2.2 _ hm (fb.getD a 0) ?_ rfl
 rw [show fb.getD a 0 = fb[a] by simp [ha]]
 exact List.getElem_mem ha
theorem getD_mem9 (L : List Nat) (a : Nat) (ha : a < L.length) : L.getD a 0 ∈ L := by
 rw [show L.getD a 0 = L[a] by simp [ha]]
 exact List.getElem_mem ha
set_option maxRecDepth 100000 in
set_option maxHeartbeats 4000000 in
theorem gput_any {w : World} {B gb n : Nat} {tb fb : List Nat} {T F : List (List Nat)} {m : Nat} (h : GrW w B gb tb fb T F m) (hn1 : tb.length = n) (hn2 : fb.length = n) (hn : n ≤ 500) (a b : Nat) (ha : a < n) (hb : b < n) (hm : m ≤ 900) :
  Calls Tryd.prog 28 #[.pointer (some ⟨gb, 0, none⟩), .int .i64 (a : Nat), .int .i64 (b : Nat)] w fun e w' => ∃ r T' F', e = .returned (.tuple #[.bool r, .int .i64 0]) ∧ GrW w' B gb tb fb T' F' (m + 1) ∧ (∀ x y, hasB (T'.getD x []) y = (hasB (T.getD x []) y || (decide (x = a) && decide (y = b)))) ∧ Below B w w' := by
 have HH := Lib.hid (ghas_any h a b (by omega) (by omega))
 obtain ⟨vt, vf, vr, nr, xr, h1, h2, h3, h4, h5, h6, h7, h8, h9, h10, hnr⟩ := id h
 have HGr := Lib.hid h
 rw [hn1] at h2
 rw [hn2] at h3
 obtain ⟨gt, ct, rfl⟩ := own_one h2 (by omega)
 obtain ⟨gf, cf, rfl⟩ := own_one h3 (by omega)
 obtain ⟨pr, cr, rfl⟩ := owns_form h4
 have HI := Lib.hid (gis_any h1)
 have HN1 := Lib.hid (gnode_any h1 (a : Int))
 have HN2 := Lib.hid (gnode_any h1 (b : Int))
 rw [show (decide (0 ≤ (a : Int)) && decide ((a : Int) < (n : Int))) = true by simp; omega] at HN1
 rw [show (decide (0 ≤ (b : Int)) && decide ((b : Int) < (n : Int))) = true by simp; omega] at HN2
 have hgl : gb < w.heap.size := h1.lt
 have hBl : B ≤ w.heap.size := by omega
 obtain ⟨r, hr⟩ : ∃ r, hasB (T.getD a []) b = r := ⟨_, rfl⟩
 rw [hr] at HH
 cases r with
 | true =>
  have HR := Lib.hid hr
  clear h1 h2 h3 h4 h5 h6 h7 h8 h9 h10 hr h
  go_enter Tryd.func28, Tryd.ntmps28
  go_wp2_with fail
  refine HI.out.mono ?_
  rintro e w1 ⟨rfl, hw⟩
  subst hw
  go_wp2_with fail
  refine HN1.out.mono ?_
  rintro e w2 ⟨rfl, hw⟩
  subst hw
  go_wp2_with fail
  refine HN2.out.mono ?_
  rintro e w3 ⟨rfl, hw⟩
  subst hw
  go_wp2_with fail
  refine HH.out.mono ?_
  rintro e w4 ⟨rfl, hw⟩
  subst hw
  go_wp2_with fail
  go_returns
  obtain ⟨vt, vf, vr, nr, xr, k1, k2, k3, k4, k5, k6, k7, k8, k9, k10, knr⟩ := HGr.out
  refine ⟨false, T, F, rfl, ⟨vt, vf, vr, nr, xr, k1, k2, k3, k4, k5, k6, k7, k8, k9, k10, by omega⟩, fun x y => ?_, Below.refl _ _⟩
  by_cases e : x = a ∧ y = b
  ·obtain ⟨rfl, rfl⟩ := e
   rw [HR.out]
   simp
  ·have : (decide (x = a) && decide (y = b)) = false := by
    simp only [Bool.and_eq_false_iff, decide_eq_false_iff_not]
    by_cases e1 : x = a
    ·exact .inr (fun e2 => e ⟨e1, e2⟩)
    ·exact .inl e1
   rw [this, Bool.or_false]
 | false =>
  obtain ⟨i1, hj, hj0, hj1, hj2⟩ := info_parts info_edge
  have hTl : T.length = n := by rw [← h6.1, hn1]
  have hTa : (T.getD a []).length = 8 := (h6.2 a (by omega)).2.1
  have HSpec := Lib.hid (put_spec T a b (by omega) (by omega))
  have HP1 := Lib.hid (bput_any (tb.getD a 0) b (T.getD a []) w (h6.2 a (by omega)) (by omega))
  have c0 := h1.cell 0 rfl
  have d0 : w.cell? ⟨gt, a, none⟩ = some (.pointer (some ⟨tb.getD a 0, 0, none⟩)) := by rw [h2.cellAt a (by omega)]; exact ptrs_at tb a (by omega)
  have HX1 : RowKit.Hid (B ≤ tb.getD a 0 ∧ tb.getD a 0 ∉ fb) := Lib.hid ⟨h10 _ (List.mem_append_left _ (getD_mem9 tb a (by omega))), notin_right h8 a (by omega)⟩
  have HX2 : RowKit.Hid (B ≤ fb.getD b 0 ∧ fb.getD b 0 ∉ tb) := Lib.hid ⟨h10 _ (List.mem_append_right _ (getD_mem9 fb b (by omega))), notin_left h8 b (by omega)⟩
  have HDf : RowKit.Hid ((ptrsG fb)[b]? = some (.pointer (some ⟨fb.getD b 0, 0, none⟩))) := Lib.hid (ptrs_at fb b (by omega))
  have HNd : RowKit.Hid (tb.Nodup ∧ fb.Nodup) := Lib.hid (by rw [List.nodup_append] at h8; exact ⟨h8.1, h8.2.1⟩)
  have HG := Lib.hid h1
  have RT := Lib.hid h2
  have RF := Lib.hid h3
  have RR := Lib.hid h4
  have HT := Lib.hid h6
  have HF := Lib.hid h7
  have H8 := Lib.hid h8
  have HD := Lib.hid h5
  have H10 := Lib.hid h10
  have HL1 := Lib.hid hn1
  have HL2 := Lib.hid hn2
  clear h1 h2 h3 h4 h5 h6 h7 h8 h10 hr h hn1 hn2 hTl hTa HGr
  go_enter Tryd.func28, Tryd.ntmps28
  go_wp2_with fail
  refine HI.out.mono ?_
  rintro e w1 ⟨rfl, hw⟩
  subst hw
  go_wp2_with fail
  refine HN1.out.mono ?_
  rintro e w2 ⟨rfl, hw⟩
  subst hw
  go_wp2_with fail
  refine HN2.out.mono ?_
  rintro e w3 ⟨rfl, hw⟩
  subst hw
  go_wp2_with fail
  refine HH.out.mono ?_
  rintro e w4 ⟨rfl, hw⟩
  subst hw
  clear HI HN1 HN2 HH
  go_wp2_with fail
  refine HP1.out.mono ?_
  rintro e w5 ⟨rfl, hs5, hg5, hz5⟩
  have hx := HT.out.2 a (by have := HL1.out; omega)
  have HG5 := Lib.hid (HG.out.kept hg5 (fun q => blk_ne HG.out hx.1 (by decide) (by injection q)))
  have RT5 := Lib.hid (owns_set RT.out hx (by decide) hg5)
  have RF5 := Lib.hid (owns_set RF.out hx (by decide) hg5)
  have RR5 := Lib.hid (owns_set RR.out hx (by decide) hg5)
  have HT5 := Lib.hid (HT.out.put a (by have := HL1.out; omega) _ HNd.out.1 hs5 hg5)
  have HF5 := Lib.hid (HF.out.other HX1.out.2 hg5)
  have hB5 := below_at hg5 HX1.out.1 hBl
  have HBl5 : RowKit.Hid (B ≤ w5.heap.size ∧ Below B _ w5) := Lib.hid ⟨by rw [hz5]; exact hBl, hB5⟩
  have HP2 := Lib.hid (bput_any (fb.getD b 0) a (F.getD b []) w5 (HF5.out.2 b (by have := HL2.out; omega)) (by omega))
  have c1 := HG5.out.cell 1 rfl
  have d1 : w5.cell? ⟨gf, b, none⟩ = some (.pointer (some ⟨fb.getD b 0, 0, none⟩)) := by rw [RF5.out.cellAt b (by omega)]; exact HDf.out
  clear HP1 c0 d0 hx hs5 hg5 hz5 hB5 HG RT RF RR HT HF
  go_wp2_with fail
  refine HP2.out.mono ?_
  rintro e w6 ⟨rfl, hs6, hg6, hz6⟩
  have hx := HF5.out.2 b (by have := HL2.out; omega)
  have HG6 := Lib.hid (HG5.out.kept hg6 (fun q => blk_ne HG5.out hx.1 (by decide) (by injection q)))
  have RT6 := Lib.hid (owns_set RT5.out hx (by decide) hg6)
  have RF6 := Lib.hid (owns_set RF5.out hx (by decide) hg6)
  have RR6 := Lib.hid (owns_set RR5.out hx (by decide) hg6)
  have HF6 := Lib.hid (HF5.out.put b (by have := HL2.out; omega) _ HNd.out.2 hs6 hg6)
  have HT6 := Lib.hid (HT5.out.other HX2.out.2 hg6)
  have hB6 := HBl5.out.2.trans (below_at hg6 HX2.out.1 HBl5.out.1)
  have HBl6 : RowKit.Hid (B ≤ w6.heap.size) := Lib.hid (by rw [hz6]; exact HBl5.out.1)
  have HB6 := Lib.hid hB6
  have c2 := HG6.out.cell 2 rfl
  clear HP2 c1 d1 hx hs6 hg6 hz6 hB6 HG5 RT5 RF5 RR5 HT5 HF5 HBl5
  have RRa := Lib.hid (RR6.out.alloc (.cells #[.int .i64 (a : Nat), .int .i64 (b : Nat)] 39))
  have hBa : B ≤ (w6.alloc (.cells #[.int .i64 (a : Nat), .int .i64 (b : Nat)] 39)).heap.size := by have := HBl6.out; simp; omega
  go_wp2_with (at_builtin; refine wpList_append_own _ rfl _ _ 22 rfl B 39 i1 (.agg #[.int .i64 0, .int .i64 0]) 2 16 Tryd.underlying22 hj hj0 hj1 hj2 rfl (by decide) _ _ _ rfl RRa.out ⟨w6.heap.size, 0, none⟩ 1 1 [.int .i64 (a : Nat), .int .i64 (b : Nat)] rfl rfl (news_lit w6 [.int .i64 (a : Nat), .int .i64 (b : Nat)] _ _ rfl) (by intro u hu; simp at hu; rcases hu with rfl | rfl <;> rfl) (by unfold maxLen; omega) (by omega) hBa ?_)
  intro v' w7 hown7 hgrow hnil
  have HG7 := Lib.hid (box_grown (HG6.out.alloc _) RRa.out (by decide) hgrow)
  have RT7 := Lib.hid (owns_other (RT6.out.alloc _) RRa.out (by decide) hgrow)
  have RF7 := Lib.hid (owns_other (RF6.out.alloc _) RRa.out (by decide) hgrow)
  have HT7 := Lib.hid ((HT6.out.alloc _).grown RRa.out (by decide) hgrow)
  have HF7 := Lib.hid ((HF6.out.alloc _).grown RRa.out (by decide) hgrow)
  have HB7 := Lib.hid ((HB6.out.alloc HBl6.out _).grown hgrow hBa (fun k hk => (RRa.out.lt k hk).1))
  have RR7 := Lib.hid hown7
  obtain ⟨p7, c7, rfl⟩ := owns_form hown7
  have f2 := HG7.out.frozen 2
  have c2' := HG7.out.cell 2 rfl
  clear hown7 hgrow hnil RRa hBa HG6 RT6 RF6 RR6 HT6 HF6 HB6 HBl6 c2
  go_wp2_with fail
  go_returns
  refine ⟨true, T.set a (putB (T.getD a []) b), F.set b (putB (F.getD b []) a), rfl, ⟨_, _, _, nr + 1, _, HG7.out.set 2 _, ?_, ?_, owns_store RR7.out HG7.out (by decide) 2 _, HD.out, HT7.out.store HG7.out (by decide) 2 _, HF7.out.store HG7.out (by decide) 2 _, H8.out, h9, H10.out, by omega⟩, HSpec.out, HB7.out.setCell (p := ⟨gb, 2, none⟩) h9 _⟩
  ·rw [HL1.out]
   exact owns_store RT7.out HG7.out (by decide) 2 _
  ·rw [HL2.out]
   exact owns_store RF7.out HG7.out (by decide) 2 _
end Go.Proofs.YtldcbapjiflblaaDoor
