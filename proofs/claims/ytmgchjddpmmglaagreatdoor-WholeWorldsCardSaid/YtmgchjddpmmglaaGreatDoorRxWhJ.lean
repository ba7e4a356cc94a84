/-
  Layer 17 (whole), the program: the world by which a history is made another one, walked. No conditions but that unicode/utf8's two tables are as their initialisers lay them.
-/
import Derived.Test.YtmgchjddpmmglaaGreatDoorRxWhE
import Derived.Test.YtmgchjddpmmglaaGreatDoorRxWhI
import Derived.Test.YtmgchjddpmmglaaGreatDoorRxWhT
import Derived.Test.YtmgchjddpmmglaaGreatDoorRxLatV
namespace Go.Proofs.YtmgchjddpmmglaaGreatDoor
open Go.RowKit Go.Lib
set_option maxRecDepth 100000 in
set_option maxHeartbeats 8000000 in
theorem world17_any {w : World} {v u : Value} {h g : HistM} (hv : HistV w v h) (hu : HistV w u g) (hm : Modst h) (hg : Modst g) (hT : Lib.Utf8Tabs 1 2 w) :
  Calls Tryz.prog 48 #[v, u] w fun e w' => ∃ v', e = .returned (.tuple #[v', .bool (worldA h g).2]) ∧ WorldV w' v' (worldA h g).1 ∧ Below w.heap.size w w' := by
 have H0 := Lib.hid hv
 have G0 := Lib.hid hu
 obtain ⟨v0, v1, v2, rfl, ⟨p0, c0, rfl, -⟩, ⟨p1, c1, rfl, -⟩, ⟨p2, c2, rfl, -⟩⟩ := hv
 obtain ⟨u0, u1, u2, rfl, ⟨q0, d0, rfl, -⟩, ⟨q1, d1, rfl, -⟩, ⟨q2, d2, rfl, k2⟩⟩ := hu
 have HXg := Lib.hid k2
 have hal := (((Below.refl w.heap.size w).alloc (Nat.le_refl _) (.cells #[.slice p0 h.1.length c0, .slice p1 h.2.1.length c1, .slice p2 h.2.2.length c2] 25)).alloc (by simp) (.cells #[.slice q0 g.1.length d0, .slice q1 g.2.1.length d1, .slice q2 g.2.2.length d2] 25)).alloc (by simp; omega) (.cells #[.slice none 0 0, .slice none 0 0] 64)
 have hbx := ((Blk.new w 25 [.slice p0 h.1.length c0, .slice p1 h.2.1.length c1, .slice p2 h.2.2.length c2]).alloc (.cells #[.slice q0 g.1.length d0, .slice q1 g.2.1.length d1, .slice q2 g.2.2.length d2] 25)).alloc (.cells #[.slice none 0 0, .slice none 0 0] 64)
 have hbw := (Blk.new (w.alloc (.cells #[.slice p0 h.1.length c0, .slice p1 h.2.1.length c1, .slice p2 h.2.2.length c2] 25)) 25 [.slice q0 g.1.length d0, .slice q1 g.2.1.length d1, .slice q2 g.2.2.length d2]).alloc (.cells #[.slice none 0 0, .slice none 0 0] 64)
 have hbr := Blk.new ((w.alloc (.cells #[.slice p0 h.1.length c0, .slice p1 h.2.1.length c1, .slice p2 h.2.2.length c2] 25)).alloc (.cells #[.slice q0 g.1.length d0, .slice q1 g.2.1.length d1, .slice q2 g.2.2.length d2] 25)) 64 [.slice none 0 0, .slice none 0 0]
 simp only [World.size_alloc] at hbw hbr
 have HMh := Lib.hid hm
 have HMg := Lib.hid hg
 have HT := Lib.hid hT
 have HPh := Lib.hid hbx
 have HPg := Lib.hid hbw
 have HR := Lib.hid hbr
 have HB := Lib.hid hal
 have mh1 : h.1.length ≤ 1000 := hm.1
 have mh2 : h.2.1.length ≤ 1000 := hm.2.1
 have mh3 : h.2.2.length ≤ 1000 := hm.2.2.1
 have mg1 : g.1.length ≤ 1000 := hg.1
 have mg2 : g.2.1.length ≤ 1000 := hg.2.1
 have mg3 : g.2.2.length ≤ 1000 := hg.2.2.1
 obtain ⟨i0, hi, hz0, hz1, hz2⟩ := info_parts info_truth
 obtain ⟨i1, hj, hj0, hj1, hj2⟩ := info_parts info_val
 have HTx := Lib.hid (fun w' (hb : Below w.heap.size w w') => histV_parts (H0.out.below hb))
 have HGx := Lib.hid (fun w' (hb : Below w.heap.size w w') => histV_parts (G0.out.below hb))
 clear k2 hm hg hT hal hbx hbw hbr
 go_enter Tryz.func48, Tryz.ntmps48
 go_upto_region 1 with fail
 obtain ⟨W1, hW1⟩ : ∃ q, (((w.alloc (.cells #[.slice p0 h.1.length c0, .slice p1 h.2.1.length c1, .slice p2 h.2.2.length c2] 25)).alloc (.cells #[.slice q0 g.1.length d0, .slice q1 g.2.1.length d1, .slice q2 g.2.2.length d2] 25)).alloc (.cells #[.slice none 0 0, .slice none 0 0] 64)) = q := ⟨_, rfl⟩
 rw [hW1] at HB HPh HPg HR ⊢
 clear hW1
 have x0 := HPh.out.cell 0 rfl
 have x1 := HPh.out.cell 1 rfl
 have x2 := HPh.out.cell 2 rfl
 have y0 := HPg.out.cell 0 rfl
 have y1 := HPg.out.cell 1 rfl
 have y2 := HPg.out.cell 2 rfl
 have z0 := HR.out.cell 0 rfl
 have s0 := HR.out.frozen 0
 have z1 := HR.out.cell 1 rfl
 have s1 := HR.out.frozen 1
 have zl := HR.out.lt
 go_wp2_with fail
 refine (hmay_v (H0.out.below HB.out) HMh.out (Utf8Tabs_below HT.out HB.out)).mono ?_
 rintro e W2 ⟨rfl, hb2⟩
 clear x0 y0 x1 y1 x2 y2 z0 z1 s0 s1 zl
 replace HPh := Lib.hid (HPh.out.later hb2)
 replace HPg := Lib.hid (HPg.out.later hb2)
 replace HR := Lib.hid (HR.out.later hb2)
 replace HB := Lib.hid (below_next HB.out hb2)
 clear hb2
 have x0 := HPh.out.cell 0 rfl
 have x1 := HPh.out.cell 1 rfl
 have x2 := HPh.out.cell 2 rfl
 have y0 := HPg.out.cell 0 rfl
 have y1 := HPg.out.cell 1 rfl
 have y2 := HPg.out.cell 2 rfl
 have z0 := HR.out.cell 0 rfl
 have s0 := HR.out.frozen 0
 have z1 := HR.out.cell 1 rfl
 have s1 := HR.out.frozen 1
 have zl := HR.out.lt
 cases hmm : mayH h with
 | false =>
  have HEr := Lib.hid (err_no hmm)
  rw [HEr.out]
  have HE := Lib.hid (@worldA_no h g (by rintro ⟨e, -⟩; rw [hmm] at e; cases e))
  go_wp2_with fail
  refine bodyPost_ret (results_ct Tryz.results48 _ _ _ _ _ rfl (load_world ((HR.out.set 0 (.slice none 0 0)).set 1 (.slice none 0 0)))) rfl ?_
  exact ⟨_, by rw [HE.out] <;> rfl, by rw [HE.out]; exact noW_v _, (HB.out.setCell (by show w.heap.size ≤ w.heap.size + 1 + 1; omega) _).setCell (by show w.heap.size ≤ w.heap.size + 1 + 1; omega) _⟩
 | true =>
  have HEr := Lib.hid (err_yes hmm)
  rw [HEr.out]
  have HMM := Lib.hid hmm
  clear hmm
  go_wp2_with fail
  refine (wis_any (G0.out.below HB.out) HMg.out (Utf8Tabs_below HT.out HB.out)).mono ?_
  rintro e W3 ⟨rfl, hb2⟩
  clear x0 y0 x1 y1 x2 y2 z0 z1 s0 s1 zl
  replace HPh := Lib.hid (HPh.out.later hb2)
  replace HPg := Lib.hid (HPg.out.later hb2)
  replace HR := Lib.hid (HR.out.later hb2)
  replace HB := Lib.hid (below_next HB.out hb2)
  clear hb2
  have x0 := HPh.out.cell 0 rfl
  have x1 := HPh.out.cell 1 rfl
  have x2 := HPh.out.cell 2 rfl
  have y0 := HPg.out.cell 0 rfl
  have y1 := HPg.out.cell 1 rfl
  have y2 := HPg.out.cell 2 rfl
  have z0 := HR.out.cell 0 rfl
  have s0 := HR.out.frozen 0
  have z1 := HR.out.cell 1 rfl
  have s1 := HR.out.frozen 1
  have zl := HR.out.lt
  cases hwg : wholeP g with
  | false =>
   have HE := Lib.hid (@worldA_no h g (by rintro ⟨-, e, -⟩; rw [hwg] at e; cases e))
   go_wp2_with fail
   refine bodyPost_ret (results_ct Tryz.results48 _ _ _ _ _ rfl (load_world ((HR.out.set 0 (.slice none 0 0)).set 1 (.slice none 0 0)))) rfl ?_
   exact ⟨_, by rw [HE.out] <;> rfl, by rw [HE.out]; exact noW_v _, (HB.out.setCell (by show w.heap.size ≤ w.heap.size + 1 + 1; omega) _).setCell (by show w.heap.size ≤ w.heap.size + 1 + 1; omega) _⟩
  | true =>
   have HWG := Lib.hid hwg
   clear hwg
   go_wp2_with fail
   refine (eqtexts_any (HTx.out _ HB.out).1 (HGx.out _ HB.out).1 mh1 mg1).mono ?_
   rintro e W4 ⟨rfl, hb2⟩
   clear x0 y0 x1 y1 x2 y2 z0 z1 s0 s1 zl
   replace HPh := Lib.hid (HPh.out.later hb2)
   replace HPg := Lib.hid (HPg.out.later hb2)
   replace HR := Lib.hid (HR.out.later hb2)
   replace HB := Lib.hid (below_next HB.out hb2)
   clear hb2
   have x0 := HPh.out.cell 0 rfl
   have x1 := HPh.out.cell 1 rfl
   have x2 := HPh.out.cell 2 rfl
   have y0 := HPg.out.cell 0 rfl
   have y1 := HPg.out.cell 1 rfl
   have y2 := HPg.out.cell 2 rfl
   have z0 := HR.out.cell 0 rfl
   have s0 := HR.out.frozen 0
   have z1 := HR.out.cell 1 rfl
   have s1 := HR.out.frozen 1
   have zl := HR.out.lt
   by_cases h1 : h.1 = g.1
   ·rw [decide_eq_true h1]
    have HE1 := Lib.hid h1
    clear h1
    go_wp2_with fail
    refine (eqtexts_any (HTx.out _ HB.out).2.1 (HGx.out _ HB.out).2.1 mh2 mg2).mono ?_
    rintro e W5 ⟨rfl, hb2⟩
    clear x0 y0 x1 y1 x2 y2 z0 z1 s0 s1 zl
    replace HPh := Lib.hid (HPh.out.later hb2)
    replace HPg := Lib.hid (HPg.out.later hb2)
    replace HR := Lib.hid (HR.out.later hb2)
    replace HB := Lib.hid (below_next HB.out hb2)
    clear hb2
    have x0 := HPh.out.cell 0 rfl
    have x1 := HPh.out.cell 1 rfl
    have x2 := HPh.out.cell 2 rfl
    have y0 := HPg.out.cell 0 rfl
    have y1 := HPg.out.cell 1 rfl
    have y2 := HPg.out.cell 2 rfl
    have z0 := HR.out.cell 0 rfl
    have s0 := HR.out.frozen 0
    have z1 := HR.out.cell 1 rfl
    have s1 := HR.out.frozen 1
    have zl := HR.out.lt
    by_cases h2 : h.2.1 = g.2.1
    ·rw [decide_eq_true h2]
     have HE2 := Lib.hid h2
     clear h2
     go_wp2_with fail
     refine (eqtxns_any (HTx.out _ HB.out).2.2 (HGx.out _ HB.out).2.2 mh3 mg3 HMh.out.2.2.2.2.2 HMg.out.2.2.2.2.2).mono ?_
     rintro e W6 ⟨rfl, hb2⟩
     clear x0 y0 x1 y1 x2 y2 z0 z1 s0 s1 zl
     replace HPh := Lib.hid (HPh.out.later hb2)
     replace HPg := Lib.hid (HPg.out.later hb2)
     replace HR := Lib.hid (HR.out.later hb2)
     replace HB := Lib.hid (below_next HB.out hb2)
     clear hb2
     have x0 := HPh.out.cell 0 rfl
     have x1 := HPh.out.cell 1 rfl
     have x2 := HPh.out.cell 2 rfl
     have y0 := HPg.out.cell 0 rfl
     have y1 := HPg.out.cell 1 rfl
     have y2 := HPg.out.cell 2 rfl
     have z0 := HR.out.cell 0 rfl
     have s0 := HR.out.frozen 0
     have z1 := HR.out.cell 1 rfl
     have s1 := HR.out.frozen 1
     have zl := HR.out.lt
     cases hag : agreeG h.2.2 g.2.2 with
     | false =>
      have HE := Lib.hid (@worldA_no h g (by rintro ⟨-, -, -, -, e⟩; rw [hag] at e; cases e))
      go_wp2_with fail
      refine bodyPost_ret (results_ct Tryz.results48 _ _ _ _ _ rfl (load_world ((HR.out.set 0 (.slice none 0 0)).set 1 (.slice none 0 0)))) rfl ?_
      exact ⟨_, by rw [HE.out] <;> rfl, by rw [HE.out]; exact noW_v _, (HB.out.setCell (by show w.heap.size ≤ w.heap.size + 1 + 1; omega) _).setCell (by show w.heap.size ≤ w.heap.size + 1 + 1; omega) _⟩
     | true =>
      have HE : RowKit.Hid (worldA h g = (worldG h g, true)) := Lib.hid (by unfold worldA; rw [if_pos ⟨HMM.out, HWG.out, HE1.out, HE2.out, hag⟩])
      have HLn := Lib.hid (agreeG_len _ _ hag)
      have HFa : RowKit.Hid (fatesG h.2.2 g.2.2 = (whereL infosP h).map (fateAt g.2.2)) := Lib.hid (by rw [whereL_yes _ HMM.out]; exact fates_infos _ _ HLn.out)
      have HVl : RowKit.Hid (valsG h.2.2 g.2.2 = (lostL h).map (valAt g.2.2)) := Lib.hid (by rw [lostL_yes HMM.out]; exact vals_places _ _ HLn.out (agreeG_ops _ _ hag))
      have HIi : RowKit.Hid (∀ i ∈ whereL infosP h, ∃ k : Nat, i = k ∧ k < g.2.2.length) := Lib.hid (fun i hi9 => by
       rw [whereL_yes _ HMM.out] at hi9
       obtain ⟨k, e, hk⟩ := info_in _ i hi9
       exact ⟨k, e, by rw [← HLn.out]; exact hk⟩)
      have HPi : RowKit.Hid (∀ p ∈ lostL h, p.1 < g.2.2.length ∧ p.2 < (g.2.2.getD p.1 noTxn).2.2.length) := Lib.hid (fun p hp => by
       rw [lostL_yes HMM.out] at hp
       obtain ⟨h1, h2⟩ := place_in _ p hp
       exact ⟨by rw [← HLn.out]; exact h1, by rw [← agreeG_ops _ _ hag _ h1]; exact h2⟩)
      have hn1 := whereL_len infosP h HMh.out
      have hn2 := lostL_len h HMh.out
      have hW6 : w.heap.size + 1 + 1 < W6.heap.size := zl
      have HAn := Lib.hid ((Below.refl W6.heap.size W6).alloc (Nat.le_refl _) (.cells #[.slice none 0 0, .slice none 0 0] 64))
      have HGn := Lib.hid (Blk.new W6 64 [.slice none 0 0, .slice none 0 0])
      clear hag
      go_upto_region 4 with fail
      obtain ⟨W7, hW7⟩ : ∃ q, W6.alloc (.cells #[.slice none 0 0, .slice none 0 0] 64) = q := ⟨_, rfl⟩
      rw [hW7] at HAn HGn ⊢
      have hs7 : W6.heap.size < W7.heap.size := by rw [← hW7]; simp
      clear hW7
      clear x0 y0 x1 y1 x2 y2 z0 z1 s0 s1 zl
      replace HPh := Lib.hid (HPh.out.later HAn.out)
      replace HPg := Lib.hid (HPg.out.later HAn.out)
      replace HR := Lib.hid (HR.out.later HAn.out)
      replace HB := Lib.hid (below_next HB.out HAn.out)
      obtain ⟨G, hG⟩ : ∃ q, W6.heap.size = q := ⟨_, rfl⟩
      rw [hG] at HGn hW6 hs7 ⊢
      have x0 := HPh.out.cell 0 rfl
      have x1 := HPh.out.cell 1 rfl
      have x2 := HPh.out.cell 2 rfl
      clear HAn hG
      go_wp2_with fail
      refine (infos_v (H0.out.below HB.out) HMh.out (Utf8Tabs_below HT.out HB.out)).mono ?_
      rintro e W8 ⟨vi, rfl, hii, hb8⟩
      obtain ⟨pi, ci, rfl, hii⟩ := hii
      have HII := Lib.hid hii
      obtain ⟨N, hN⟩ : ∃ q, W8.heap.size = q := ⟨_, rfl⟩
      have hs8 := hb8.size
      have hst : WldSt w W8 N N 0 G W8 [.slice p0 h.1.length c0, .slice p1 h.2.1.length c1, .slice p2 h.2.2.length c2] [.slice q0 g.1.length d0, .slice q1 g.2.1.length d1, .slice q2 g.2.2.length d2] (.slice none 0 0) (.slice none 0 0) [] [] := ⟨World.ownsRow_nil _ _ _ _, World.ownsRow_nil _ _ _ _, HGn.out.later hb8, HPh.out.later hb8, HPg.out.later hb8, HR.out.later hb8, below_next HB.out hb8, fun _ _ _ _ h => h, hW6⟩
      have HST := Lib.hid hst
      have HGN : RowKit.Hid (G < N) := Lib.hid (by omega)
      have HN8 := Lib.hid hN
      have HSb : RowKit.Hid (SlBox W8 G 64 [.slice none 0 0, .slice none 0 0]) := Lib.hid ⟨HGn.out.later hb8, by intro x hx; simp at hx; subst hx; exact ⟨_, _, _, rfl⟩⟩
      clear hb8 x0 x1 x2 hst HPh HPg HR HB HGn
      obtain ⟨I, hI⟩ : ∃ I, whereL infosP h = I := ⟨_, rfl⟩
      rw [hI] at HFa HIi HII hn1 ⊢
      obtain ⟨n1, hn1e⟩ : ∃ n, I.length = n := ⟨_, rfl⟩
      have HN1 := Lib.hid hn1e
      rw [hn1e] at hn1 ⊢
      clear hI hn1e hN hii
      go_wp2_with fail
      go_loopw [47] (fun i wr => ∃ (k : Nat) (vc : Value), k ≤ n1 ∧ i = .int .i64 k ∧ N ≤ wr.heap.size ∧ WldSt w W8 N N 0 G wr [.slice p0 h.1.length c0, .slice p1 h.2.1.length c1, .slice p2 h.2.2.length c2] [.slice q0 g.1.length d0, .slice q1 g.2.1.length d1, .slice q2 g.2.2.length d2] vc (.slice none 0 0) ((I.take k).map (fateAt g.2.2)) []) (fun i _ => n1 - (RowKit.intOf i).toNat)
      case atStart => exact ⟨0, _, Nat.zero_le _, rfl, Nat.le_of_eq HN8.out.symm, HST.out⟩
      case round =>
       obtain ⟨k, vc, hk, rfl, hnw, st⟩ := hrel
       have hcl : ((I.take k).map (fateAt g.2.2)).length = k := by rw [List.length_map, List.length_take, HN1.out]; omega
       have HNW := Lib.hid hnw
       by_cases hk1 : k < n1
       ·have hkI : k < I.length := by rw [HN1.out]; exact hk1
        have hget : I.getD k 0 = I[k] := by simp [hkI]
        obtain ⟨mi, hmi, hml⟩ := HIi.out _ (by rw [hget]; exact List.getElem_mem hkI : I.getD k 0 ∈ I)
        obtain ⟨g9, rfl, c9⟩ := HII.out k hkI
        have hne9 := HSb.out.ne c9 (by intros; simp)
        have hlt9 := World.block_lt_of_cell? W8 _ c9
        have i9 := st.k _ _ (by rw [← HN8.out]; exact hlt9) hne9 c9
        rw [hmi] at i9
        obtain ⟨gq, su, rfl, b1, b2, b3, -⟩ := HXg.out mi hml
        have b2 := cell_later st.b b2
        have hnx : (I.take (k + 1)).map (fateAt g.2.2) = (I.take k).map (fateAt g.2.2) ++ [fateAt g.2.2 (I.getD k 0)] := by
         rw [List.take_succ_eq_append_getElem hkI, List.map_append, hget]
         rfl
        have hfa : fateAt g.2.2 (I.getD k 0) = ((g.2.2.getD mi noTxn).2.1 == 1) := by
         rw [hmi]
         unfold fateAt
         rw [Int.toNat_natCast]
        rw [hfa] at hnx
        obtain ⟨uf, huf⟩ : ∃ q, (g.2.2.getD mi noTxn).2.1 = q := ⟨_, rfl⟩
        rw [huf] at b2 hnx
        obtain ⟨b, hb⟩ : ∃ b, (uf == (1 : Int)) = b := ⟨_, rfl⟩
        rw [hb] at hnx
        have HNx := Lib.hid hnx
        have SD := Lib.hid st
        obtain ⟨C, hC⟩ : ∃ C, (I.take k).map (fateAt g.2.2) = C := ⟨_, rfl⟩
        rw [hC] at HNx SD hcl
        have HCl := Lib.hid hcl
        have hcw := SD.out.c
        rw [hcl] at hcw
        obtain ⟨pc, cc, rfl⟩ := owns_form hcw
        have HS : RowKit.Hid (∀ w', Below wr.heap.size wr w' → w'.cell? ⟨G, 0, none⟩ = some (.slice pc k cc) ∧ w'.cell? ⟨w.heap.size + 1, 2, none⟩ = some (.slice (some ⟨gq, 0, none⟩) g.2.2.length d2) ∧ w'.cell? ⟨gq, mi * 3 + 1, none⟩ = some (.int .i64 uf) ∧ Below wr.heap.size wr w') := Lib.hid (fun w' hb => ⟨(SD.out.g.later hb).cell 0 rfl, (SD.out.q.later hb).cell 2 rfl, cell_later hb b2, hb⟩)
        clear st hnx hfa hget c9 hmi hC hcw b1 b3 huf hcl hnw
        go_upto_region 7 with fail
        clear i9
        refine wpk HS [10, 12] (by kernel_rfl) fun hB0 _ => ?_
        obtain ⟨wd, hwd⟩ : ∃ q, (wr).drew = q := ⟨_, rfl⟩
        rw [hwd] at hB0 ⊢
        clear hwd
        refine wfr 0 (v := ?_) rfl ?_ ?_
        rotate_left
        ·intro w' hw';go_simp;try with_reducible rfl
        try simp only [Act.put, sq]
        refine wtk 1 13 (v := ?_) rfl ?_ (HS.out _ hB0) ?_
        rotate_left
        ·intro w' hw';(try dsimp only at hw');go_simp;try with_reducible rfl
        try simp only [Act.put, sq]
        refine wfr 2 (v := ?_) rfl ?_ ?_
        rotate_left
        ·intro w' hw';go_simp;try with_reducible rfl
        try simp only [Act.put, sq]
        refine wtk 3 13 (v := ?_) rfl ?_ (HS.out _ hB0) ?_
        rotate_left
        ·intro w' hw';(try dsimp only at hw');go_simp;try with_reducible rfl
        try simp only [Act.put, sq]
        refine won 4 rfl fun K hK => ?_
        go_simp
        refine hK.out _ _ (fun _ h => h) ?_
        clear hK K
        try simp only [Act.put, sq]
        refine won 5 rfl fun K hK => ?_
        go_simp
        refine hK.out _ _ (fun _ h => h) ?_
        clear hK K
        try simp only [Act.put, sq]
        refine won 6 rfl fun K hK => ?_
        go_simp
        refine hK.out _ _ (fun _ h => h) ?_
        clear hK K
        try simp only [Act.put, sq]
        have hSn := HS.out _ hB0
        refine won 7 rfl fun K hK => ?_
        go_simp
        refine hK.out _ _ (fun _ h => h) ?_
        clear hK K
        clear hSn
        try simp only [Act.put, sq]
        refine won 8 rfl fun K hK => ?_
        go_simp
        refine hK.out _ _ (fun _ h => h) ?_
        clear hK K
        try simp only [Act.put, sq]
        refine won 9 rfl fun K hK => ?_
        go_simp
        have hA1 := hB0.alloc hB0.size (.cells #[.bool b] 4)
        have HSr := Lib.hid (Blk.new wd 4 [.bool b])
        refine hK.out _ _ (fun _ _ => HS.out _ hA1) ?_
        clear hK K
        try simp only [Act.put, sq]
        obtain ⟨wa1, hwa1⟩ : ∃ q, wd.alloc (.cells #[.bool b] 4) = q := ⟨_, rfl⟩
        obtain ⟨gb1, hgb1⟩ : ∃ q, wd.heap.size = q := ⟨_, rfl⟩
        have hlt1 : wr.heap.size ≤ gb1 := by rw [← hgb1]; exact hB0.size
        simp only [hwa1, hgb1] at hA1 HSr ⊢
        clear hwa1 hgb1
        refine won 10 rfl fun K hK => ?_
        refine step_append_own (by rfl) _ _ 61 (by rfl) N 4 i0 (.bool false) 1 1 Tryz.underlying61 hi hz0 hz1 hz2 rfl (by decide) (.slice pc k cc) k (bools C) (by rfl) (by have h9 := owns_later SD.out.c (hA1); rw [HCl.out] at h9; exact h9) ⟨gb1, 0, none⟩ 1 1 [.bool b] (by rfl) rfl (fun q u hq => by rw [Addr.add_lit, Nat.zero_add]; exact HSr.out.cell q hq) (by intro u hu; simp at hu; subst hu; rfl) (by unfold maxLen; omega) (by omega) (Nat.le_trans HNW.out (hA1).size) ?_
        intro v4 w4 hown4 hgrow hnil
        obtain ⟨g4, c4, rfl⟩ := owns_some hown4
        have hown5 : w4.ownsRow N 4 1 (.slice (some ⟨g4, 0, none⟩) (k + 1) c4) (C.length + 1) (bools C ++ [.bool b]) := by rw [HCl.out]; exact hown4
        have hgb := (SD.out.g.later (hA1)).grown (owns_later SD.out.c (hA1)) HGN.out hgrow
        have ST4 := Lib.hid (fate_next SD.out HGN.out (Nat.le_refl _) (hA1) hown5 hgrow)
        have r1 := hgb.cell 0 rfl
        have f1 := hgb.frozen 0
        have rl := hgb.lt
        have HN4 : RowKit.Hid (N ≤ (w4.setCell ⟨G, 0, none⟩ (.slice (some ⟨g4, 0, none⟩) (k + 1) c4)).heap.size) := Lib.hid (by rw [set_size]; exact Nat.le_trans HNW.out (Nat.le_trans (hA1).size hgrow.size))
        refine hK.out _ _ (fun h => absurd h (by decide)) ?_
        clear hK K hown4 hown5 hgrow hnil hgb
        try simp only [Act.put, sq]
        refine won 11 rfl fun K hK => ?_
        go_simp
        refine hK.out _ _ (fun _ h => h) ?_
        clear hK K
        try simp only [Act.put, sq]
        refine won 12 rfl fun K hK => ?_
        go_simp
        refine hK.out _ _ (fun h => absurd h (by decide)) ?_
        clear hK K
        try simp only [Act.put, sq]
        clear r1 f1 rl
        refine wpAnyM_done (by kernel_rfl) ?_ _
        try simp only [Act.put, sq]
        go_wp2_with fail
        go_roundw
        case rel => exact ⟨k + 1, _, by omega, by go_num, HN4.out, by rw [HNx.out]; exact ST4.out⟩
        case measure => simp [RowKit.intOf]; omega
       ·have hke : k = n1 := by omega
        subst hke
        have hIt : I.take k = I := by rw [← HN1.out]; exact List.take_length
        rw [hIt, ← HFa.out] at st
        obtain ⟨C, hC⟩ : ∃ C, fatesG h.2.2 g.2.2 = C := ⟨_, rfl⟩
        rw [hC] at st
        have HCe := Lib.hid hC
        have x0 := st.h.cell 0 rfl
        have x1 := st.h.cell 1 rfl
        have x2 := st.h.cell 2 rfl
        have SD0 := Lib.hid st
        clear st hIt hcl hC
        go_wp2_with fail
        refine (lost_v (H0.out.below SD0.out.b) HMh.out (Utf8Tabs_below HT.out SD0.out.b)).mono ?_
        rintro e W9 ⟨vj, rfl, hjj, hb9⟩
        obtain ⟨pj, cj, rfl, hjj⟩ := hjj
        have HJJ := Lib.hid hjj
        have s9 := SD0.out.later hb9
        obtain ⟨N9, hN9⟩ : ∃ q, W9.heap.size = q := ⟨_, rfl⟩
        have hgl9 := s9.g.lt
        have HGN9 : RowKit.Hid (G < N9) := Lib.hid (by omega)
        have HN9 := Lib.hid hN9
        obtain ⟨pc, cc, rfl⟩ := owns_form s9.c
        have HSb9 : RowKit.Hid (SlBox W9 G 64 [.slice pc C.length cc, .slice none 0 0]) := Lib.hid ⟨s9.g, by intro x hx; simp at hx; rcases hx with rfl | rfl <;> exact ⟨_, _, _, rfl⟩⟩
        have hst9 : WldSt w W9 N9 0 N9 G W9 [.slice p0 h.1.length c0, .slice p1 h.2.1.length c1, .slice p2 h.2.2.length c2] [.slice q0 g.1.length d0, .slice q1 g.2.1.length d1, .slice q2 g.2.2.length d2] (.slice pc C.length cc) (.slice none 0 0) C [] := ⟨owns_base s9.c (Nat.zero_le _), World.ownsRow_nil _ _ _ _, s9.g, s9.h, s9.q, s9.r, s9.b, fun _ _ _ _ h => h, s9.e⟩
        have HST9 := Lib.hid hst9
        clear x0 x1 x2 hb9 s9 hst9 hjj SD0 HST HGN HSb HN8
        obtain ⟨J, hJ⟩ : ∃ J, lostL h = J := ⟨_, rfl⟩
        rw [hJ] at HVl HPi HJJ hn2 ⊢
        obtain ⟨n2, hn2e⟩ : ∃ n, J.length = n := ⟨_, rfl⟩
        have HN2 := Lib.hid hn2e
        rw [hn2e] at hn2 ⊢
        clear hJ hn2e hN9 hgl9
        go_wp2_with fail
        go_loopw [67] (fun i wr => ∃ (k : Nat) (vl : Value), k ≤ n2 ∧ i = .int .i64 k ∧ N9 ≤ wr.heap.size ∧ WldSt w W9 N9 0 N9 G wr [.slice p0 h.1.length c0, .slice p1 h.2.1.length c1, .slice p2 h.2.2.length c2] [.slice q0 g.1.length d0, .slice q1 g.2.1.length d1, .slice q2 g.2.2.length d2] (.slice pc C.length cc) vl C ((J.take k).map (valAt g.2.2))) (fun i _ => n2 - (RowKit.intOf i).toNat)
        case atStart => exact ⟨0, _, Nat.zero_le _, rfl, Nat.le_of_eq HN9.out.symm, HST9.out⟩
        case round =>
         obtain ⟨k, vl, hk, rfl, hnw, st⟩ := hrel
         have hcl : ((J.take k).map (valAt g.2.2)).length = k := by rw [List.length_map, List.length_take, HN2.out]; omega
         by_cases hk1 : k < n2
         ·have hkI : k < J.length := by rw [HN2.out]; exact hk1
          have hget : J.getD k (0, 0) = J[k] := by simp [hkI]
          obtain ⟨hpa, hpj⟩ := HPi.out _ (by rw [hget]; exact List.getElem_mem hkI : J.getD k (0, 0) ∈ J)
          obtain ⟨g9, rfl, c9, c9'⟩ := HJJ.out k hkI
          have hne9 := HSb9.out.ne c9 (by intros; simp)
          have hlt9 := World.block_lt_of_cell? W9 _ c9
          have i9 := st.k _ _ (by rw [← HN9.out]; exact hlt9) hne9 c9
          have i9' := st.k _ _ (by rw [← HN9.out]; exact World.block_lt_of_cell? W9 _ c9') (HSb9.out.ne c9' (by intros; simp)) c9'
          have hnx : (J.take (k + 1)).map (valAt g.2.2) = (J.take k).map (valAt g.2.2) ++ [valAt g.2.2 (J.getD k (0, 0))] := by
           rw [List.take_succ_eq_append_getElem hkI, List.map_append, hget]
           rfl
          obtain ⟨⟨pa, pj⟩, hpp⟩ : ∃ q, J.getD k (0, 0) = q := ⟨_, rfl⟩
          rw [hpp] at hpa hpj i9 i9' hnx
          dsimp only at hpa hpj i9 i9'
          obtain ⟨gq, su, rfl, b1, b2, b3, hops⟩ := HXg.out pa hpa
          have hva : valAt g.2.2 (pa, pj) = ((g.2.2.getD pa noTxn).2.2.getD pj noOp).2.2 := rfl
          rw [hva] at hnx
          obtain ⟨⟨us, uf, ul⟩, hu9⟩ : ∃ q, g.2.2.getD pa noTxn = q := ⟨_, rfl⟩
          rw [hu9] at hops hpj hnx
          dsimp only at hops hpj hnx
          obtain ⟨p3, c3, rfl, -, hops⟩ := hops
          obtain ⟨go, rfl, o1, o2, o3, o4⟩ := hops pj hpj
          obtain ⟨⟨xw, xk, xd, xn⟩, hx9⟩ : ∃ q, ul.getD pj noOp = q := ⟨_, rfl⟩
          rw [hx9] at o3 o4 hnx
          dsimp only at o3 o4 hnx
          have b3 := cell_later st.b b3
          have o3 := cell_later st.b o3
          have o4 := cell_later st.b o4
          have HNx := Lib.hid hnx
          have SD := Lib.hid st
          obtain ⟨L, hL⟩ : ∃ L, (J.take k).map (valAt g.2.2) = L := ⟨_, rfl⟩
          rw [hL] at HNx SD hcl
          have HCl := Lib.hid hcl
          have hcw := SD.out.l
          rw [hcl] at hcw
          obtain ⟨pl, cl, rfl⟩ := owns_form hcw
          have HNW := Lib.hid hnw
          have HPp := Lib.hid ((Below.refl wr.heap.size wr).alloc (Nat.le_refl _) (.cells #[.int .i64 (pa : Nat), .int .i64 (pj : Nat)] 38))
          have HPb := Lib.hid (Blk.new wr 38 [.int .i64 (pa : Nat), .int .i64 (pj : Nat)])
          clear st hnx hget c9 c9' hpp hL hcw b1 b2 hu9 hx9 o1 o2 hops hcl hva hnw
          go_upto_region 12 with fail
          obtain ⟨wp, hwp⟩ : ∃ q, wr.alloc (.cells #[.int .i64 (pa : Nat), .int .i64 (pj : Nat)] 38) = q := ⟨_, rfl⟩
          rw [hwp] at HPp HPb ⊢
          obtain ⟨gp, hgp⟩ : ∃ q, wr.heap.size = q := ⟨_, rfl⟩
          rw [hgp] at HPb
          try rw [hgp]
          clear hwp i9 i9'
          have HS : RowKit.Hid (∀ w', Below wp.heap.size wp w' → w'.cell? ⟨G, 1, none⟩ = some (.slice pl k cl) ∧ w'.cell? ⟨w.heap.size + 1, 2, none⟩ = some (.slice (some ⟨gq, 0, none⟩) g.2.2.length d2) ∧ w'.cell? ⟨gp, 0, none⟩ = some (.int .i64 (pa : Nat)) ∧ w'.cell? ⟨gp, 1, none⟩ = some (.int .i64 (pj : Nat)) ∧ w'.cell? ⟨gq, pa * 3 + 2, none⟩ = some (.slice (some ⟨go, 0, none⟩) ul.length c3) ∧ w'.cell? ⟨go, pj * 4 + 2, none⟩ = some (.int .i64 xd) ∧ w'.cell? ⟨go, pj * 4 + 3, none⟩ = some (.int .i64 xn) ∧ Below wp.heap.size wp w') := Lib.hid (fun w' hb => ⟨(SD.out.g.later (below_next HPp.out hb)).cell 1 rfl, (SD.out.q.later (below_next HPp.out hb)).cell 2 rfl, (HPb.out.later hb).cell 0 rfl, (HPb.out.later hb).cell 1 rfl, cell_later (below_next HPp.out hb) b3, cell_later (below_next HPp.out hb) o3, cell_later (below_next HPp.out hb) o4, hb⟩)
          clear hgp
          refine wpk HS [15, 17] (by kernel_rfl) fun hB0 _ => ?_
          obtain ⟨wd, hwd⟩ : ∃ q, (wp).drew = q := ⟨_, rfl⟩
          rw [hwd] at hB0 ⊢
          clear hwd
          refine wfr 0 (v := ?_) rfl ?_ ?_
          rotate_left
          ·intro w' hw';go_simp;try with_reducible rfl
          try simp only [Act.put, sq]
          refine wtk 1 18 (v := ?_) rfl ?_ (HS.out _ hB0) ?_
          rotate_left
          ·intro w' hw';(try dsimp only at hw');go_simp;try with_reducible rfl
          try simp only [Act.put, sq]
          refine wfr 2 (v := ?_) rfl ?_ ?_
          rotate_left
          ·intro w' hw';go_simp;try with_reducible rfl
          try simp only [Act.put, sq]
          refine wtk 3 18 (v := ?_) rfl ?_ (HS.out _ hB0) ?_
          rotate_left
          ·intro w' hw';(try dsimp only at hw');go_simp;try with_reducible rfl
          try simp only [Act.put, sq]
          refine wfr 4 (v := ?_) rfl ?_ ?_
          rotate_left
          ·intro w' hw';go_simp;try with_reducible rfl
          try simp only [Act.put, sq]
          refine wtk 5 18 (v := ?_) rfl ?_ (HS.out _ hB0) ?_
          rotate_left
          ·intro w' hw';(try dsimp only at hw');go_simp;try with_reducible rfl
          try simp only [Act.put, sq]
          refine wfr 6 (v := ?_) rfl ?_ ?_
          rotate_left
          ·intro w' hw';go_simp;try with_reducible rfl
          try simp only [Act.put, sq]
          refine wfr 7 (v := ?_) rfl ?_ ?_
          rotate_left
          ·intro w' hw';go_simp;try with_reducible rfl
          try simp only [Act.put, sq]
          refine wtk 8 18 (v := ?_) rfl ?_ (HS.out _ hB0) ?_
          rotate_left
          ·intro w' hw';(try dsimp only at hw');go_simp;try with_reducible rfl
          try simp only [Act.put, sq]
          refine won 9 rfl fun K hK => ?_
          go_simp
          refine hK.out _ _ (fun _ h => h) ?_
          clear hK K
          try simp only [Act.put, sq]
          have hSn := HS.out _ hB0
          refine won 10 rfl fun K hK => ?_
          go_simp
          refine hK.out _ _ (fun _ h => h) ?_
          clear hK K
          clear hSn
          try simp only [Act.put, sq]
          refine won 11 rfl fun K hK => ?_
          go_simp
          refine hK.out _ _ (fun _ h => h) ?_
          clear hK K
          try simp only [Act.put, sq]
          refine won 12 rfl fun K hK => ?_
          go_simp
          refine hK.out _ _ (fun _ h => h) ?_
          clear hK K
          try simp only [Act.put, sq]
          have hSn := HS.out _ hB0
          refine won 13 rfl fun K hK => ?_
          go_simp
          refine hK.out _ _ (fun _ h => h) ?_
          clear hK K
          clear hSn
          try simp only [Act.put, sq]
          refine won 14 rfl fun K hK => ?_
          go_simp
          have hA1 := hB0.alloc hB0.size (.cells #[.int .i64 xd, .int .i64 xn] 49)
          have HSr := Lib.hid (Blk.new wd 49 [.int .i64 xd, .int .i64 xn])
          refine hK.out _ _ (fun _ _ => HS.out _ hA1) ?_
          clear hK K
          try simp only [Act.put, sq]
          obtain ⟨wa1, hwa1⟩ : ∃ q, wd.alloc (.cells #[.int .i64 xd, .int .i64 xn] 49) = q := ⟨_, rfl⟩
          obtain ⟨gb1, hgb1⟩ : ∃ q, wd.heap.size = q := ⟨_, rfl⟩
          have hlt1 : wp.heap.size ≤ gb1 := by rw [← hgb1]; exact hB0.size
          simp only [hwa1, hgb1] at hA1 HSr ⊢
          clear hwa1 hgb1
          refine won 15 rfl fun K hK => ?_
          refine step_append_own (by rfl) _ _ 62 (by rfl) N9 49 i1 (.agg #[.int .i64 0, .int .i64 0]) 2 16 Tryz.underlying62 hj hj0 hj1 hj2 rfl (by decide) (.slice pl k cl) k (valsC L) (by rfl) (by have h9 := owns_later SD.out.l (below_next HPp.out hA1); rw [HCl.out] at h9; exact h9) ⟨gb1, 0, none⟩ 1 1 [.int .i64 xd, .int .i64 xn] (by rfl) rfl (fun q u hq => by rw [Addr.add_lit, Nat.zero_add]; exact HSr.out.cell q hq) (by intro u hu; simp at hu; rcases hu with rfl | rfl <;> rfl) (by unfold maxLen; omega) (by omega) (Nat.le_trans HNW.out (below_next HPp.out hA1).size) ?_
          intro v4 w4 hown4 hgrow hnil
          obtain ⟨g4, c4, rfl⟩ := owns_some hown4
          have hown5 : w4.ownsRow N9 49 2 (.slice (some ⟨g4, 0, none⟩) (k + 1) c4) (L.length + 1) (valsC L ++ [.int .i64 xd, .int .i64 xn]) := by rw [HCl.out]; exact hown4
          have hgb := (SD.out.g.later (below_next HPp.out hA1)).grown (owns_later SD.out.l (below_next HPp.out hA1)) HGN9.out hgrow
          have ST4 := Lib.hid (val_next (x := (xd, xn)) SD.out HGN9.out (Nat.le_refl _) (below_next HPp.out hA1) hown5 hgrow)
          have r1 := hgb.cell 1 rfl
          have f1 := hgb.frozen 1
          have rl := hgb.lt
          have HN4 : RowKit.Hid (N9 ≤ (w4.setCell ⟨G, 1, none⟩ (.slice (some ⟨g4, 0, none⟩) (k + 1) c4)).heap.size) := Lib.hid (by rw [set_size]; exact Nat.le_trans HNW.out (Nat.le_trans (below_next HPp.out hA1).size hgrow.size))
          refine hK.out _ _ (fun h => absurd h (by decide)) ?_
          clear hK K hown4 hown5 hgrow hnil hgb
          try simp only [Act.put, sq]
          refine won 16 rfl fun K hK => ?_
          go_simp
          refine hK.out _ _ (fun _ h => h) ?_
          clear hK K
          try simp only [Act.put, sq]
          refine won 17 rfl fun K hK => ?_
          go_simp
          refine hK.out _ _ (fun h => absurd h (by decide)) ?_
          clear hK K
          try simp only [Act.put, sq]
          clear r1 f1 rl
          refine wpAnyM_done (by kernel_rfl) ?_ _
          try simp only [Act.put, sq]
          go_wp2_with fail
          go_roundw
          case rel => exact ⟨k + 1, _, by omega, by go_num, HN4.out, by rw [HNx.out]; exact ST4.out⟩
          case measure => simp [RowKit.intOf]; omega
         ·have hke : k = n2 := by omega
          subst hke
          have hIt : J.take k = J := by rw [← HN2.out]; exact List.take_length
          rw [hIt, ← HVl.out] at st
          obtain ⟨pl, cl, rfl⟩ := owns_form st.l
          have HEn := Lib.hid (world_end st)
          have x0 := st.g.cell 0 rfl
          have x1 := st.g.cell 1 rfl
          have z0 := st.r.cell 0 rfl
          have z1 := st.r.cell 1 rfl
          have s0 := st.r.frozen 0
          have s1 := st.r.frozen 1
          have zl := st.r.lt
          have HE3 : RowKit.Hid (worldG h g = (C, valsG h.2.2 g.2.2)) := Lib.hid (by rw [← HCe.out]; rfl)
          clear st hIt hcl
          go_wp2_with fail
          refine bodyPost_ret (results_ct Tryz.results48 _ _ _ _ _ rfl (load_world HEn.out.1)) rfl ?_
          exact ⟨_, by rw [HE.out] <;> rfl, by rw [HE.out, HE3.out]; exact HEn.out.2.1, HEn.out.2.2⟩
    ·have hd : decide (h.2.1 = g.2.1) = false := decide_eq_false h2
     rw [hd]
     have HE := Lib.hid (@worldA_no h g (by rintro ⟨-, -, -, e, -⟩; exact h2 e))
     go_wp2_with fail
     refine bodyPost_ret (results_ct Tryz.results48 _ _ _ _ _ rfl (load_world ((HR.out.set 0 (.slice none 0 0)).set 1 (.slice none 0 0)))) rfl ?_
     exact ⟨_, by rw [HE.out] <;> rfl, by rw [HE.out]; exact noW_v _, (HB.out.setCell (by show w.heap.size ≤ w.heap.size + 1 + 1; omega) _).setCell (by show w.heap.size ≤ w.heap.size + 1 + 1; omega) _⟩
   ·have hd : decide (h.1 = g.1) = false := decide_eq_false h1
    rw [hd]
    have HE := Lib.hid (@worldA_no h g (by rintro ⟨-, -, e, -⟩; exact h1 e))
    go_wp2_with fail
    refine bodyPost_ret (results_ct Tryz.results48 _ _ _ _ _ rfl (load_world ((HR.out.set 0 (.slice none 0 0)).set 1 (.slice none 0 0)))) rfl ?_
    exact ⟨_, by rw [HE.out] <;> rfl, by rw [HE.out]; exact noW_v _, (HB.out.setCell (by show w.heap.size ≤ w.heap.size + 1 + 1; omega) _).setCell (by show w.heap.size ≤ w.heap.size + 1 + 1; omega) _⟩
end Go.Proofs.YtmgchjddpmmglaaGreatDoor
