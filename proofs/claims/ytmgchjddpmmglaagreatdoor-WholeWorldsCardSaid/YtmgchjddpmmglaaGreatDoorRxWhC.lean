/-
  Layer 17 (whole): a history made whole by a world, the document. No conditions.
-/
import Derived.Test.YtmgchjddpmmglaaGreatDoorRxWoF
import Derived.Test.YtmgchjddpmmglaaGreatDoorRxWhA
import Derived.Test.YtmgchjddpmmglaaGreatDoorRxLatU
namespace Go.Proofs.YtmgchjddpmmglaaGreatDoor
open Go.RowKit Go.Lib
set_option maxRecDepth 100000 in
set_option maxHeartbeats 8000000 in
theorem raw17_any {w : World} {v u : Value} {h : HistM} {m : WorldM} (hv : HistV w v h) (hu : WorldV w u m) (hm : Modst h) (h50 : m.1.length ≤ 1000000 ∧ m.2.length ≤ 1000000) (hW : MayW h m) :
  Calls Tryz.prog 92 #[v, u] w fun e w' => ∃ v', e = .returned v' ∧ HistV w' v' (makeH h m) ∧ Below w.heap.size w w' := by
 have H0 := Lib.hid hv
 have U0 := Lib.hid hu
 obtain ⟨v0, v1, v2, rfl, ⟨p0, c0, rfl, k0⟩, ⟨p1, c1, rfl, k1⟩, ⟨p2, c2, rfl, k2⟩⟩ := hv
 obtain ⟨pb, cb, pv, cv, rfl, hb, hvv, hcb, hcv⟩ := worldV_form hu
 obtain ⟨hcv1, hcv2⟩ := hcv
 unfold maxLen at hcv2
 have m1 : h.1.length ≤ 1000 := hm.1
 have m2 : h.2.1.length ≤ 1000 := hm.2.1
 have m3 : h.2.2.length ≤ 1000 := hm.2.2.1
 have hal := (((Below.refl w.heap.size w).alloc (Nat.le_refl _) (.cells #[.slice p0 h.1.length c0, .slice p1 h.2.1.length c1, .slice p2 h.2.2.length c2] 25)).alloc (by simp) (.cells #[.slice pb m.1.length cb, .slice pv m.2.length cv] 64)).alloc (by simp; omega) (.cells #[.slice none 0 0, .slice none 0 0, .slice none 0 0] 25)
 have hbx := ((Blk.new w 25 [.slice p0 h.1.length c0, .slice p1 h.2.1.length c1, .slice p2 h.2.2.length c2]).alloc (.cells #[.slice pb m.1.length cb, .slice pv m.2.length cv] 64)).alloc (.cells #[.slice none 0 0, .slice none 0 0, .slice none 0 0] 25)
 have hbw := (Blk.new (w.alloc (.cells #[.slice p0 h.1.length c0, .slice p1 h.2.1.length c1, .slice p2 h.2.2.length c2] 25)) 64 [.slice pb m.1.length cb, .slice pv m.2.length cv]).alloc (.cells #[.slice none 0 0, .slice none 0 0, .slice none 0 0] 25)
 have hbr := Blk.new ((w.alloc (.cells #[.slice p0 h.1.length c0, .slice p1 h.2.1.length c1, .slice p2 h.2.2.length c2] 25)).alloc (.cells #[.slice pb m.1.length cb, .slice pv m.2.length cv] 64)) 25 [.slice none 0 0, .slice none 0 0, .slice none 0 0]
 simp only [World.size_alloc] at hbw hbr
 have HK0 := Lib.hid k0
 have HK1 := Lib.hid k1
 have HX := Lib.hid k2
 have HVa := Lib.hid hvv
 have HMod := Lib.hid hm
 have H50 := Lib.hid h50
 have HAL := Lib.hid hal
 have HBX := Lib.hid hbx
 have HBW := Lib.hid hbw
 have HBR := Lib.hid hbr
 have HMW := Lib.hid hW
 obtain ⟨i3, hi3, hy0, hy1, hy2⟩ := info_parts info_op
 obtain ⟨i4, hi4, hw0, hw1', hw2'⟩ := info_parts info_txn
 clear k0 k1 k2 hvv hm h50 hal hbx hbw hbr hb hcb hu hW
 go_enter Tryz.func92, Tryz.ntmps92
 go_upto_region 1 with fail
 obtain ⟨W1, hW1⟩ : ∃ q, (((w.alloc (.cells #[.slice p0 h.1.length c0, .slice p1 h.2.1.length c1, .slice p2 h.2.2.length c2] 25)).alloc (.cells #[.slice pb m.1.length cb, .slice pv m.2.length cv] 64)).alloc (.cells #[.slice none 0 0, .slice none 0 0, .slice none 0 0] 25)) = q := ⟨_, rfl⟩
 rw [hW1] at HAL HBX HBW HBR ⊢
 clear hW1
 have HPx := Lib.hid HBX.out
 have HPw := Lib.hid HBW.out
 have HR := Lib.hid HBR.out
 have HB := Lib.hid HAL.out
 clear HBX HBW HBR HAL
 obtain ⟨WB, rfl⟩ : ∃ q, q = W1 := ⟨_, rfl⟩
 have HTx0 := Lib.hid (fun w' (hb : Below WB.heap.size WB w') => HK0.out.below (below_next HB.out hb))
 have HTx1 := Lib.hid (fun w' (hb : Below WB.heap.size WB w') => HK1.out.below (below_next HB.out hb))
 have HS : RowKit.Hid (∀ w', Below WB.heap.size WB w' → w'.cell? ⟨w.heap.size, 0, none⟩ = some (.slice p0 h.1.length c0) ∧ w'.cell? ⟨w.heap.size, 1, none⟩ = some (.slice p1 h.2.1.length c1) ∧ Below WB.heap.size WB w') := Lib.hid (fun w' hb => ⟨(HPx.out.later hb).cell 0 rfl, (HPx.out.later hb).cell 1 rfl, hb⟩)
 go_cut [5] (fun s7 wx => ∃ vs vk G, s7 = .pointer (some ⟨G, 0, none⟩) ∧ wx.ownsRow 0 9 1 vs h.1.length (strs h.1) ∧ wx.ownsRow 0 9 1 vk h.2.1.length (strs h.2.1) ∧ Blk wx G 25 [vs, vk, .slice none 0 0] ∧ Below WB.heap.size WB wx ∧ WB.heap.size ≤ G)
 case first =>
  refine wp_region_keep (fun w' => w'.cell? ⟨w.heap.size, 0, none⟩ = some (.slice p0 h.1.length c0) ∧ w'.cell? ⟨w.heap.size, 1, none⟩ = some (.slice p1 h.2.1.length c1) ∧ Below WB.heap.size WB w') [10] (by kernel_rfl) ?_
  have hB0 : Below (WB).heap.size (WB) (WB).drew := Below.drew (Below.refl _ _)
  obtain ⟨wd, hwd⟩ : ∃ q, (WB).drew = q := ⟨_, rfl⟩
  rw [hwd] at hB0 ⊢
  clear hwd
  refine wfr 1 (v := ?_) rfl ?_ ?_
  rotate_left
  ·intro w' hw';go_simp;try with_reducible rfl
  try simp only [Act.put, sq]
  refine wtk 2 11 (v := ?_) rfl ?_ (HS.out _ hB0) ?_
  rotate_left
  ·intro w' hw';(try dsimp only at hw');go_simp;try with_reducible rfl
  try simp only [Act.put, sq]
  refine wfr 5 (v := ?_) rfl ?_ ?_
  rotate_left
  ·intro w' hw';go_simp;try with_reducible rfl
  try simp only [Act.put, sq]
  refine wtk 6 11 (v := ?_) rfl ?_ (HS.out _ hB0) ?_
  rotate_left
  ·intro w' hw';(try dsimp only at hw');go_simp;try with_reducible rfl
  try simp only [Act.put, sq]
  refine wpAnyM_three 0 4 9 rfl rfl rfl (by kernel_rfl) (fun K hK => ?_) (fun K hK => ?_) (fun K hK => ?_)
  ·go_simp
   have hA1 := hB0.alloc hB0.size (.cells #[] 9)
   have RS := Lib.hid (World.ownsRow_made (base := WB.heap.size) (size := 1) (e := 9) wd #[] 0 hB0.size (Nat.zero_le _) rfl)
   refine hK.out _ _ (fun _ _ => HS.out _ hA1) ?_
   clear hK K
   try simp only [Act.put, sq]
   obtain ⟨wa1, hwa1⟩ : ∃ q, wd.alloc (.cells #[] 9) = q := ⟨_, rfl⟩
   obtain ⟨gb1, hgb1⟩ : ∃ q, wd.heap.size = q := ⟨_, rfl⟩
   have hlt1 : WB.heap.size ≤ gb1 := by rw [← hgb1]; exact hB0.size
   simp only [hwa1, hgb1] at hA1 RS ⊢
   clear hwa1 hgb1
   refine wpAnyM_three 3 4 9 rfl rfl rfl (by kernel_rfl) (fun K hK => ?_) (fun K hK => ?_) (fun K hK => ?_)
   ·refine step_append_texts (by rfl) _ _ (by rfl) WB.heap.size (.slice (some ⟨gb1, 0, none⟩) 0 0) 0 [] (by rfl) RS.out p0 c0 h.1 (by rfl) (HTx0.out _ hA1) (by omega) (by omega) hA1.size ?_
    intro v2 wa2 hown2 hg2 hat2
    rw [Nat.zero_add, List.nil_append] at hown2
    obtain ⟨sp, sc, rfl⟩ := owns_form hown2
    have hA2 : Below WB.heap.size WB wa2 := hA1.grown hg2 hA1.size (fun k hk => (RS.out.lt k hk).1)
    replace RS := Lib.hid hown2
    clear hown2 hg2 hat2
    refine hK.out _ _ (fun _ _ => HS.out _ hA2) ?_
    clear hK K
    try simp only [Act.put, sq]
    refine wpAnyM_two 4 9 rfl rfl (by kernel_rfl) (fun K hK => ?_) (fun K hK => ?_)
    ·go_simp
     have hA3 := hA2.alloc hA2.size (.cells #[] 9)
     have RK := Lib.hid (World.ownsRow_made (base := WB.heap.size) (size := 1) (e := 9) wa2 #[] 0 hA2.size (Nat.zero_le _) rfl)
     have D := Lib.hid (Parted.new RS.out 0 0)
     replace RS := Lib.hid (RS.out.alloc (.cells #[] 9))
     refine hK.out _ _ (fun _ _ => HS.out _ hA3) ?_
     clear hK K
     try simp only [Act.put, sq]
     obtain ⟨wa3, hwa3⟩ : ∃ q, wa2.alloc (.cells #[] 9) = q := ⟨_, rfl⟩
     obtain ⟨gb3, hgb3⟩ : ∃ q, wa2.heap.size = q := ⟨_, rfl⟩
     have hlt3 : WB.heap.size ≤ gb3 := by rw [← hgb3]; exact hA2.size
     simp only [hwa3, hgb3] at hA3 RS RK D ⊢
     clear hwa3 hgb3
     refine wpAnyM_two 7 9 rfl rfl (by kernel_rfl) (fun K hK => ?_) (fun K hK => ?_)
     ·refine step_append_texts (by rfl) _ _ (by rfl) WB.heap.size (.slice (some ⟨gb3, 0, none⟩) 0 0) 0 [] (by rfl) RK.out p1 c1 h.2.1 (by rfl) (HTx1.out _ hA3) (by omega) (by omega) hA3.size ?_
      intro v4 wa4 hown4 hg4 hat4
      rw [Nat.zero_add, List.nil_append] at hown4
      obtain ⟨tp, tc, rfl⟩ := owns_form hown4
      have hA4 : Below WB.heap.size WB wa4 := hA3.grown hg4 hA3.size (fun k hk => (RK.out.lt k hk).1)
      have D2 := Lib.hid (Parted.grow (D.out.flip) hat4 RS.out)
      replace RS := Lib.hid (owns_beside RS.out hg4 (fun k h1 h2 => (D.out.flip) k h2 h1))
      replace D := Lib.hid D2.out
      clear D2
      replace RK := Lib.hid hown4
      clear hown4 hg4 hat4
      refine hK.out _ _ (fun _ _ => HS.out _ hA4) ?_
      clear hK K
      try simp only [Act.put, sq]
      refine wfr 8 (v := ?_) rfl ?_ ?_
      rotate_left
      ·intro w' hw';go_simp;try with_reducible rfl
      try simp only [Act.put, sq]
      refine won 9 rfl fun K hK => ?_
      go_simp
      have hA5 := hA4.alloc hA4.size (.cells #[.slice none 0 0, .slice none 0 0, .slice none 0 0] 25)
      have HG := Lib.hid (Blk.new wa4 25 [.slice none 0 0, .slice none 0 0, .slice none 0 0])
      replace RS := Lib.hid (RS.out.alloc (.cells #[.slice none 0 0, .slice none 0 0, .slice none 0 0] 25))
      replace RK := Lib.hid (RK.out.alloc (.cells #[.slice none 0 0, .slice none 0 0, .slice none 0 0] 25))
      refine hK.out _ _ (fun _ _ => HS.out _ hA5) ?_
      clear hK K
      try simp only [Act.put, sq]
      obtain ⟨wa5, hwa5⟩ : ∃ q, wa4.alloc (.cells #[.slice none 0 0, .slice none 0 0, .slice none 0 0] 25) = q := ⟨_, rfl⟩
      obtain ⟨gb5, hgb5⟩ : ∃ q, wa4.heap.size = q := ⟨_, rfl⟩
      have hlt5 : WB.heap.size ≤ gb5 := by rw [← hgb5]; exact hA4.size
      simp only [hwa5, hgb5] at hA5 RS RK D HG ⊢
      clear hwa5 hgb5
      refine won 10 rfl fun K hK => ?_
      obtain ⟨r0, r1, r2, f0, f1, f2, fl⟩ := box3 HG.out
      go_simp
      refine hK.out _ _ (fun h => absurd h (by decide)) ?_
      clear hK K r0 r1 r2 f0 f1 f2 fl
      try simp only [Act.put, sq]
      refine wpAnyM_done (by kernel_rfl) ?_ _
      try simp only [Act.put, sq]
      go_wp2_with fail
      go_meet
      exact ⟨_, _, _, rfl, out_done RS.out RK.out HG.out hA5 hlt5⟩
     ·go_simp
      have hA4 := hA3.alloc hA3.size (.cells #[.slice none 0 0, .slice none 0 0, .slice none 0 0] 25)
      have HG := Lib.hid (Blk.new wa3 25 [.slice none 0 0, .slice none 0 0, .slice none 0 0])
      replace RS := Lib.hid (RS.out.alloc (.cells #[.slice none 0 0, .slice none 0 0, .slice none 0 0] 25))
      replace RK := Lib.hid (RK.out.alloc (.cells #[.slice none 0 0, .slice none 0 0, .slice none 0 0] 25))
      refine hK.out _ _ (fun _ _ => HS.out _ hA4) ?_
      clear hK K
      try simp only [Act.put, sq]
      obtain ⟨wa4, hwa4⟩ : ∃ q, wa3.alloc (.cells #[.slice none 0 0, .slice none 0 0, .slice none 0 0] 25) = q := ⟨_, rfl⟩
      obtain ⟨gb4, hgb4⟩ : ∃ q, wa3.heap.size = q := ⟨_, rfl⟩
      have hlt4 : WB.heap.size ≤ gb4 := by rw [← hgb4]; exact hA3.size
      simp only [hwa4, hgb4] at hA4 RS RK D HG ⊢
      clear hwa4 hgb4
      refine won 7 rfl fun K hK => ?_
      refine step_append_texts (by rfl) _ _ (by rfl) WB.heap.size (.slice (some ⟨gb3, 0, none⟩) 0 0) 0 [] (by rfl) RK.out p1 c1 h.2.1 (by rfl) (HTx1.out _ hA4) (by omega) (by omega) hA4.size ?_
      intro v5 wa5 hown5 hg5 hat5
      rw [Nat.zero_add, List.nil_append] at hown5
      obtain ⟨tp, tc, rfl⟩ := owns_form hown5
      have hA5 : Below WB.heap.size WB wa5 := hA4.grown hg5 hA4.size (fun k hk => (RK.out.lt k hk).1)
      have D2 := Lib.hid (Parted.grow (D.out.flip) hat5 RS.out)
      replace RS := Lib.hid (owns_beside RS.out hg5 (fun k h1 h2 => (D.out.flip) k h2 h1))
      replace D := Lib.hid D2.out
      clear D2
      replace HG := Lib.hid (box_grown HG.out RK.out (by decide) hg5)
      replace RK := Lib.hid hown5
      clear hown5 hg5 hat5
      refine hK.out _ _ (fun _ _ => HS.out _ hA5) ?_
      clear hK K
      try simp only [Act.put, sq]
      refine won 8 rfl fun K hK => ?_
      go_simp
      refine hK.out _ _ (fun _ h => h) ?_
      clear hK K
      try simp only [Act.put, sq]
      refine won 10 rfl fun K hK => ?_
      obtain ⟨r0, r1, r2, f0, f1, f2, fl⟩ := box3 HG.out
      go_simp
      refine hK.out _ _ (fun h => absurd h (by decide)) ?_
      clear hK K r0 r1 r2 f0 f1 f2 fl
      try simp only [Act.put, sq]
      refine wpAnyM_done (by kernel_rfl) ?_ _
      try simp only [Act.put, sq]
      go_wp2_with fail
      go_meet
      exact ⟨_, _, _, rfl, out_done RS.out RK.out HG.out hA5 hlt4⟩
    ·go_simp
     have hA3 := hA2.alloc hA2.size (.cells #[.slice none 0 0, .slice none 0 0, .slice none 0 0] 25)
     have HG := Lib.hid (Blk.new wa2 25 [.slice none 0 0, .slice none 0 0, .slice none 0 0])
     replace RS := Lib.hid (RS.out.alloc (.cells #[.slice none 0 0, .slice none 0 0, .slice none 0 0] 25))
     refine hK.out _ _ (fun _ _ => HS.out _ hA3) ?_
     clear hK K
     try simp only [Act.put, sq]
     obtain ⟨wa3, hwa3⟩ : ∃ q, wa2.alloc (.cells #[.slice none 0 0, .slice none 0 0, .slice none 0 0] 25) = q := ⟨_, rfl⟩
     obtain ⟨gb3, hgb3⟩ : ∃ q, wa2.heap.size = q := ⟨_, rfl⟩
     have hlt3 : WB.heap.size ≤ gb3 := by rw [← hgb3]; exact hA2.size
     simp only [hwa3, hgb3] at hA3 RS HG ⊢
     clear hwa3 hgb3
     refine won 4 rfl fun K hK => ?_
     go_simp
     have hA4 := hA3.alloc hA3.size (.cells #[] 9)
     have RK := Lib.hid (World.ownsRow_made (base := WB.heap.size) (size := 1) (e := 9) wa3 #[] 0 hA3.size (Nat.zero_le _) rfl)
     have D := Lib.hid (Parted.new RS.out 0 0)
     replace RS := Lib.hid (RS.out.alloc (.cells #[] 9))
     replace HG := Lib.hid (HG.out.alloc (.cells #[] 9))
     refine hK.out _ _ (fun _ _ => HS.out _ hA4) ?_
     clear hK K
     try simp only [Act.put, sq]
     obtain ⟨wa4, hwa4⟩ : ∃ q, wa3.alloc (.cells #[] 9) = q := ⟨_, rfl⟩
     obtain ⟨gb4, hgb4⟩ : ∃ q, wa3.heap.size = q := ⟨_, rfl⟩
     have hlt4 : WB.heap.size ≤ gb4 := by rw [← hgb4]; exact hA3.size
     simp only [hwa4, hgb4] at hA4 RS HG RK D ⊢
     clear hwa4 hgb4
     refine won 7 rfl fun K hK => ?_
     refine step_append_texts (by rfl) _ _ (by rfl) WB.heap.size (.slice (some ⟨gb4, 0, none⟩) 0 0) 0 [] (by rfl) RK.out p1 c1 h.2.1 (by rfl) (HTx1.out _ hA4) (by omega) (by omega) hA4.size ?_
     intro v5 wa5 hown5 hg5 hat5
     rw [Nat.zero_add, List.nil_append] at hown5
     obtain ⟨tp, tc, rfl⟩ := owns_form hown5
     have hA5 : Below WB.heap.size WB wa5 := hA4.grown hg5 hA4.size (fun k hk => (RK.out.lt k hk).1)
     have D2 := Lib.hid (Parted.grow (D.out.flip) hat5 RS.out)
     replace RS := Lib.hid (owns_beside RS.out hg5 (fun k h1 h2 => (D.out.flip) k h2 h1))
     replace D := Lib.hid D2.out
     clear D2
     replace HG := Lib.hid (box_grown HG.out RK.out (by decide) hg5)
     replace RK := Lib.hid hown5
     clear hown5 hg5 hat5
     refine hK.out _ _ (fun _ _ => HS.out _ hA5) ?_
     clear hK K
     try simp only [Act.put, sq]
     refine won 8 rfl fun K hK => ?_
     go_simp
     refine hK.out _ _ (fun _ h => h) ?_
     clear hK K
     try simp only [Act.put, sq]
     refine won 10 rfl fun K hK => ?_
     obtain ⟨r0, r1, r2, f0, f1, f2, fl⟩ := box3 HG.out
     go_simp
     refine hK.out _ _ (fun h => absurd h (by decide)) ?_
     clear hK K r0 r1 r2 f0 f1 f2 fl
     try simp only [Act.put, sq]
     refine wpAnyM_done (by kernel_rfl) ?_ _
     try simp only [Act.put, sq]
     go_wp2_with fail
     go_meet
     exact ⟨_, _, _, rfl, out_done RS.out RK.out HG.out hA5 hlt3⟩
   ·go_simp
    have hA2 := hA1.alloc hA1.size (.cells #[] 9)
    have RK := Lib.hid (World.ownsRow_made (base := WB.heap.size) (size := 1) (e := 9) wa1 #[] 0 hA1.size (Nat.zero_le _) rfl)
    have D := Lib.hid (Parted.new RS.out 0 0)
    replace RS := Lib.hid (RS.out.alloc (.cells #[] 9))
    refine hK.out _ _ (fun _ _ => HS.out _ hA2) ?_
    clear hK K
    try simp only [Act.put, sq]
    obtain ⟨wa2, hwa2⟩ : ∃ q, wa1.alloc (.cells #[] 9) = q := ⟨_, rfl⟩
    obtain ⟨gb2, hgb2⟩ : ∃ q, wa1.heap.size = q := ⟨_, rfl⟩
    have hlt2 : WB.heap.size ≤ gb2 := by rw [← hgb2]; exact hA1.size
    simp only [hwa2, hgb2] at hA2 RS RK D ⊢
    clear hwa2 hgb2
    refine wpAnyM_two 3 9 rfl rfl (by kernel_rfl) (fun K hK => ?_) (fun K hK => ?_)
    ·refine step_append_texts (by rfl) _ _ (by rfl) WB.heap.size (.slice (some ⟨gb1, 0, none⟩) 0 0) 0 [] (by rfl) RS.out p0 c0 h.1 (by rfl) (HTx0.out _ hA2) (by omega) (by omega) hA2.size ?_
     intro v3 wa3 hown3 hg3 hat3
     rw [Nat.zero_add, List.nil_append] at hown3
     obtain ⟨sp, sc, rfl⟩ := owns_form hown3
     have hA3 : Below WB.heap.size WB wa3 := hA2.grown hg3 hA2.size (fun k hk => (RS.out.lt k hk).1)
     have D2 := Lib.hid (Parted.grow (D.out) hat3 RK.out)
     replace RK := Lib.hid (owns_beside RK.out hg3 (fun k h1 h2 => (D.out) k h2 h1))
     replace D := Lib.hid D2.out
     clear D2
     replace RS := Lib.hid hown3
     clear hown3 hg3 hat3
     refine hK.out _ _ (fun _ _ => HS.out _ hA3) ?_
     clear hK K
     try simp only [Act.put, sq]
     refine wpAnyM_two 7 9 rfl rfl (by kernel_rfl) (fun K hK => ?_) (fun K hK => ?_)
     ·refine step_append_texts (by rfl) _ _ (by rfl) WB.heap.size (.slice (some ⟨gb2, 0, none⟩) 0 0) 0 [] (by rfl) RK.out p1 c1 h.2.1 (by rfl) (HTx1.out _ hA3) (by omega) (by omega) hA3.size ?_
      intro v4 wa4 hown4 hg4 hat4
      rw [Nat.zero_add, List.nil_append] at hown4
      obtain ⟨tp, tc, rfl⟩ := owns_form hown4
      have hA4 : Below WB.heap.size WB wa4 := hA3.grown hg4 hA3.size (fun k hk => (RK.out.lt k hk).1)
      have D2 := Lib.hid (Parted.grow (D.out.flip) hat4 RS.out)
      replace RS := Lib.hid (owns_beside RS.out hg4 (fun k h1 h2 => (D.out.flip) k h2 h1))
      replace D := Lib.hid D2.out
      clear D2
      replace RK := Lib.hid hown4
      clear hown4 hg4 hat4
      refine hK.out _ _ (fun _ _ => HS.out _ hA4) ?_
      clear hK K
      try simp only [Act.put, sq]
      refine wfr 8 (v := ?_) rfl ?_ ?_
      rotate_left
      ·intro w' hw';go_simp;try with_reducible rfl
      try simp only [Act.put, sq]
      refine won 9 rfl fun K hK => ?_
      go_simp
      have hA5 := hA4.alloc hA4.size (.cells #[.slice none 0 0, .slice none 0 0, .slice none 0 0] 25)
      have HG := Lib.hid (Blk.new wa4 25 [.slice none 0 0, .slice none 0 0, .slice none 0 0])
      replace RS := Lib.hid (RS.out.alloc (.cells #[.slice none 0 0, .slice none 0 0, .slice none 0 0] 25))
      replace RK := Lib.hid (RK.out.alloc (.cells #[.slice none 0 0, .slice none 0 0, .slice none 0 0] 25))
      refine hK.out _ _ (fun _ _ => HS.out _ hA5) ?_
      clear hK K
      try simp only [Act.put, sq]
      obtain ⟨wa5, hwa5⟩ : ∃ q, wa4.alloc (.cells #[.slice none 0 0, .slice none 0 0, .slice none 0 0] 25) = q := ⟨_, rfl⟩
      obtain ⟨gb5, hgb5⟩ : ∃ q, wa4.heap.size = q := ⟨_, rfl⟩
      have hlt5 : WB.heap.size ≤ gb5 := by rw [← hgb5]; exact hA4.size
      simp only [hwa5, hgb5] at hA5 RS RK D HG ⊢
      clear hwa5 hgb5
      refine won 10 rfl fun K hK => ?_
      obtain ⟨r0, r1, r2, f0, f1, f2, fl⟩ := box3 HG.out
      go_simp
      refine hK.out _ _ (fun h => absurd h (by decide)) ?_
      clear hK K r0 r1 r2 f0 f1 f2 fl
      try simp only [Act.put, sq]
      refine wpAnyM_done (by kernel_rfl) ?_ _
      try simp only [Act.put, sq]
      go_wp2_with fail
      go_meet
      exact ⟨_, _, _, rfl, out_done RS.out RK.out HG.out hA5 hlt5⟩
     ·go_simp
      have hA4 := hA3.alloc hA3.size (.cells #[.slice none 0 0, .slice none 0 0, .slice none 0 0] 25)
      have HG := Lib.hid (Blk.new wa3 25 [.slice none 0 0, .slice none 0 0, .slice none 0 0])
      replace RS := Lib.hid (RS.out.alloc (.cells #[.slice none 0 0, .slice none 0 0, .slice none 0 0] 25))
      replace RK := Lib.hid (RK.out.alloc (.cells #[.slice none 0 0, .slice none 0 0, .slice none 0 0] 25))
      refine hK.out _ _ (fun _ _ => HS.out _ hA4) ?_
      clear hK K
      try simp only [Act.put, sq]
      obtain ⟨wa4, hwa4⟩ : ∃ q, wa3.alloc (.cells #[.slice none 0 0, .slice none 0 0, .slice none 0 0] 25) = q := ⟨_, rfl⟩
      obtain ⟨gb4, hgb4⟩ : ∃ q, wa3.heap.size = q := ⟨_, rfl⟩
      have hlt4 : WB.heap.size ≤ gb4 := by rw [← hgb4]; exact hA3.size
      simp only [hwa4, hgb4] at hA4 RS RK D HG ⊢
      clear hwa4 hgb4
      refine won 7 rfl fun K hK => ?_
      refine step_append_texts (by rfl) _ _ (by rfl) WB.heap.size (.slice (some ⟨gb2, 0, none⟩) 0 0) 0 [] (by rfl) RK.out p1 c1 h.2.1 (by rfl) (HTx1.out _ hA4) (by omega) (by omega) hA4.size ?_
      intro v5 wa5 hown5 hg5 hat5
      rw [Nat.zero_add, List.nil_append] at hown5
      obtain ⟨tp, tc, rfl⟩ := owns_form hown5
      have hA5 : Below WB.heap.size WB wa5 := hA4.grown hg5 hA4.size (fun k hk => (RK.out.lt k hk).1)
      have D2 := Lib.hid (Parted.grow (D.out.flip) hat5 RS.out)
      replace RS := Lib.hid (owns_beside RS.out hg5 (fun k h1 h2 => (D.out.flip) k h2 h1))
      replace D := Lib.hid D2.out
      clear D2
      replace HG := Lib.hid (box_grown HG.out RK.out (by decide) hg5)
      replace RK := Lib.hid hown5
      clear hown5 hg5 hat5
      refine hK.out _ _ (fun _ _ => HS.out _ hA5) ?_
      clear hK K
      try simp only [Act.put, sq]
      refine won 8 rfl fun K hK => ?_
      go_simp
      refine hK.out _ _ (fun _ h => h) ?_
      clear hK K
      try simp only [Act.put, sq]
      refine won 10 rfl fun K hK => ?_
      obtain ⟨r0, r1, r2, f0, f1, f2, fl⟩ := box3 HG.out
      go_simp
      refine hK.out _ _ (fun h => absurd h (by decide)) ?_
      clear hK K r0 r1 r2 f0 f1 f2 fl
      try simp only [Act.put, sq]
      refine wpAnyM_done (by kernel_rfl) ?_ _
      try simp only [Act.put, sq]
      go_wp2_with fail
      go_meet
      exact ⟨_, _, _, rfl, out_done RS.out RK.out HG.out hA5 hlt4⟩
    ·go_simp
     have hA3 := hA2.alloc hA2.size (.cells #[.slice none 0 0, .slice none 0 0, .slice none 0 0] 25)
     have HG := Lib.hid (Blk.new wa2 25 [.slice none 0 0, .slice none 0 0, .slice none 0 0])
     replace RS := Lib.hid (RS.out.alloc (.cells #[.slice none 0 0, .slice none 0 0, .slice none 0 0] 25))
     replace RK := Lib.hid (RK.out.alloc (.cells #[.slice none 0 0, .slice none 0 0, .slice none 0 0] 25))
     refine hK.out _ _ (fun _ _ => HS.out _ hA3) ?_
     clear hK K
     try simp only [Act.put, sq]
     obtain ⟨wa3, hwa3⟩ : ∃ q, wa2.alloc (.cells #[.slice none 0 0, .slice none 0 0, .slice none 0 0] 25) = q := ⟨_, rfl⟩
     obtain ⟨gb3, hgb3⟩ : ∃ q, wa2.heap.size = q := ⟨_, rfl⟩
     have hlt3 : WB.heap.size ≤ gb3 := by rw [← hgb3]; exact hA2.size
     simp only [hwa3, hgb3] at hA3 RS RK D HG ⊢
     clear hwa3 hgb3
     refine won 3 rfl fun K hK => ?_
     refine step_append_texts (by rfl) _ _ (by rfl) WB.heap.size (.slice (some ⟨gb1, 0, none⟩) 0 0) 0 [] (by rfl) RS.out p0 c0 h.1 (by rfl) (HTx0.out _ hA3) (by omega) (by omega) hA3.size ?_
     intro v4 wa4 hown4 hg4 hat4
     rw [Nat.zero_add, List.nil_append] at hown4
     obtain ⟨sp, sc, rfl⟩ := owns_form hown4
     have hA4 : Below WB.heap.size WB wa4 := hA3.grown hg4 hA3.size (fun k hk => (RS.out.lt k hk).1)
     have D2 := Lib.hid (Parted.grow (D.out) hat4 RK.out)
     replace RK := Lib.hid (owns_beside RK.out hg4 (fun k h1 h2 => (D.out) k h2 h1))
     replace D := Lib.hid D2.out
     clear D2
     replace HG := Lib.hid (box_grown HG.out RS.out (by decide) hg4)
     replace RS := Lib.hid hown4
     clear hown4 hg4 hat4
     refine hK.out _ _ (fun _ _ => HS.out _ hA4) ?_
     clear hK K
     try simp only [Act.put, sq]
     refine won 7 rfl fun K hK => ?_
     refine step_append_texts (by rfl) _ _ (by rfl) WB.heap.size (.slice (some ⟨gb2, 0, none⟩) 0 0) 0 [] (by rfl) RK.out p1 c1 h.2.1 (by rfl) (HTx1.out _ hA4) (by omega) (by omega) hA4.size ?_
     intro v5 wa5 hown5 hg5 hat5
     rw [Nat.zero_add, List.nil_append] at hown5
     obtain ⟨tp, tc, rfl⟩ := owns_form hown5
     have hA5 : Below WB.heap.size WB wa5 := hA4.grown hg5 hA4.size (fun k hk => (RK.out.lt k hk).1)
     have D2 := Lib.hid (Parted.grow (D.out.flip) hat5 RS.out)
     replace RS := Lib.hid (owns_beside RS.out hg5 (fun k h1 h2 => (D.out.flip) k h2 h1))
     replace D := Lib.hid D2.out
     clear D2
     replace HG := Lib.hid (box_grown HG.out RK.out (by decide) hg5)
     replace RK := Lib.hid hown5
     clear hown5 hg5 hat5
     refine hK.out _ _ (fun _ _ => HS.out _ hA5) ?_
     clear hK K
     try simp only [Act.put, sq]
     refine won 8 rfl fun K hK => ?_
     go_simp
     refine hK.out _ _ (fun _ h => h) ?_
     clear hK K
     try simp only [Act.put, sq]
     refine won 10 rfl fun K hK => ?_
     obtain ⟨r0, r1, r2, f0, f1, f2, fl⟩ := box3 HG.out
     go_simp
     refine hK.out _ _ (fun h => absurd h (by decide)) ?_
     clear hK K r0 r1 r2 f0 f1 f2 fl
     try simp only [Act.put, sq]
     refine wpAnyM_done (by kernel_rfl) ?_ _
     try simp only [Act.put, sq]
     go_wp2_with fail
     go_meet
     exact ⟨_, _, _, rfl, out_done RS.out RK.out HG.out hA5 hlt3⟩
   ·go_simp
    have hA2 := hA1.alloc hA1.size (.cells #[.slice none 0 0, .slice none 0 0, .slice none 0 0] 25)
    have HG := Lib.hid (Blk.new wa1 25 [.slice none 0 0, .slice none 0 0, .slice none 0 0])
    replace RS := Lib.hid (RS.out.alloc (.cells #[.slice none 0 0, .slice none 0 0, .slice none 0 0] 25))
    refine hK.out _ _ (fun _ _ => HS.out _ hA2) ?_
    clear hK K
    try simp only [Act.put, sq]
    obtain ⟨wa2, hwa2⟩ : ∃ q, wa1.alloc (.cells #[.slice none 0 0, .slice none 0 0, .slice none 0 0] 25) = q := ⟨_, rfl⟩
    obtain ⟨gb2, hgb2⟩ : ∃ q, wa1.heap.size = q := ⟨_, rfl⟩
    have hlt2 : WB.heap.size ≤ gb2 := by rw [← hgb2]; exact hA1.size
    simp only [hwa2, hgb2] at hA2 RS HG ⊢
    clear hwa2 hgb2
    refine wpAnyM_two 3 4 rfl rfl (by kernel_rfl) (fun K hK => ?_) (fun K hK => ?_)
    ·refine step_append_texts (by rfl) _ _ (by rfl) WB.heap.size (.slice (some ⟨gb1, 0, none⟩) 0 0) 0 [] (by rfl) RS.out p0 c0 h.1 (by rfl) (HTx0.out _ hA2) (by omega) (by omega) hA2.size ?_
     intro v3 wa3 hown3 hg3 hat3
     rw [Nat.zero_add, List.nil_append] at hown3
     obtain ⟨sp, sc, rfl⟩ := owns_form hown3
     have hA3 : Below WB.heap.size WB wa3 := hA2.grown hg3 hA2.size (fun k hk => (RS.out.lt k hk).1)
     replace HG := Lib.hid (box_grown HG.out RS.out (by decide) hg3)
     replace RS := Lib.hid hown3
     clear hown3 hg3 hat3
     refine hK.out _ _ (fun _ _ => HS.out _ hA3) ?_
     clear hK K
     try simp only [Act.put, sq]
     refine won 4 rfl fun K hK => ?_
     go_simp
     have hA4 := hA3.alloc hA3.size (.cells #[] 9)
     have RK := Lib.hid (World.ownsRow_made (base := WB.heap.size) (size := 1) (e := 9) wa3 #[] 0 hA3.size (Nat.zero_le _) rfl)
     have D := Lib.hid (Parted.new RS.out 0 0)
     replace RS := Lib.hid (RS.out.alloc (.cells #[] 9))
     replace HG := Lib.hid (HG.out.alloc (.cells #[] 9))
     refine hK.out _ _ (fun _ _ => HS.out _ hA4) ?_
     clear hK K
     try simp only [Act.put, sq]
     obtain ⟨wa4, hwa4⟩ : ∃ q, wa3.alloc (.cells #[] 9) = q := ⟨_, rfl⟩
     obtain ⟨gb4, hgb4⟩ : ∃ q, wa3.heap.size = q := ⟨_, rfl⟩
     have hlt4 : WB.heap.size ≤ gb4 := by rw [← hgb4]; exact hA3.size
     simp only [hwa4, hgb4] at hA4 RS HG RK D ⊢
     clear hwa4 hgb4
     refine won 7 rfl fun K hK => ?_
     refine step_append_texts (by rfl) _ _ (by rfl) WB.heap.size (.slice (some ⟨gb4, 0, none⟩) 0 0) 0 [] (by rfl) RK.out p1 c1 h.2.1 (by rfl) (HTx1.out _ hA4) (by omega) (by omega) hA4.size ?_
     intro v5 wa5 hown5 hg5 hat5
     rw [Nat.zero_add, List.nil_append] at hown5
     obtain ⟨tp, tc, rfl⟩ := owns_form hown5
     have hA5 : Below WB.heap.size WB wa5 := hA4.grown hg5 hA4.size (fun k hk => (RK.out.lt k hk).1)
     have D2 := Lib.hid (Parted.grow (D.out.flip) hat5 RS.out)
     replace RS := Lib.hid (owns_beside RS.out hg5 (fun k h1 h2 => (D.out.flip) k h2 h1))
     replace D := Lib.hid D2.out
     clear D2
     replace HG := Lib.hid (box_grown HG.out RK.out (by decide) hg5)
     replace RK := Lib.hid hown5
     clear hown5 hg5 hat5
     refine hK.out _ _ (fun _ _ => HS.out _ hA5) ?_
     clear hK K
     try simp only [Act.put, sq]
     refine won 8 rfl fun K hK => ?_
     go_simp
     refine hK.out _ _ (fun _ h => h) ?_
     clear hK K
     try simp only [Act.put, sq]
     refine won 10 rfl fun K hK => ?_
     obtain ⟨r0, r1, r2, f0, f1, f2, fl⟩ := box3 HG.out
     go_simp
     refine hK.out _ _ (fun h => absurd h (by decide)) ?_
     clear hK K r0 r1 r2 f0 f1 f2 fl
     try simp only [Act.put, sq]
     refine wpAnyM_done (by kernel_rfl) ?_ _
     try simp only [Act.put, sq]
     go_wp2_with fail
     go_meet
     exact ⟨_, _, _, rfl, out_done RS.out RK.out HG.out hA5 hlt2⟩
    ·go_simp
     have hA3 := hA2.alloc hA2.size (.cells #[] 9)
     have RK := Lib.hid (World.ownsRow_made (base := WB.heap.size) (size := 1) (e := 9) wa2 #[] 0 hA2.size (Nat.zero_le _) rfl)
     have D := Lib.hid (Parted.new RS.out 0 0)
     replace RS := Lib.hid (RS.out.alloc (.cells #[] 9))
     replace HG := Lib.hid (HG.out.alloc (.cells #[] 9))
     refine hK.out _ _ (fun _ _ => HS.out _ hA3) ?_
     clear hK K
     try simp only [Act.put, sq]
     obtain ⟨wa3, hwa3⟩ : ∃ q, wa2.alloc (.cells #[] 9) = q := ⟨_, rfl⟩
     obtain ⟨gb3, hgb3⟩ : ∃ q, wa2.heap.size = q := ⟨_, rfl⟩
     have hlt3 : WB.heap.size ≤ gb3 := by rw [← hgb3]; exact hA2.size
     simp only [hwa3, hgb3] at hA3 RS HG RK D ⊢
     clear hwa3 hgb3
     refine won 3 rfl fun K hK => ?_
     refine step_append_texts (by rfl) _ _ (by rfl) WB.heap.size (.slice (some ⟨gb1, 0, none⟩) 0 0) 0 [] (by rfl) RS.out p0 c0 h.1 (by rfl) (HTx0.out _ hA3) (by omega) (by omega) hA3.size ?_
     intro v4 wa4 hown4 hg4 hat4
     rw [Nat.zero_add, List.nil_append] at hown4
     obtain ⟨sp, sc, rfl⟩ := owns_form hown4
     have hA4 : Below WB.heap.size WB wa4 := hA3.grown hg4 hA3.size (fun k hk => (RS.out.lt k hk).1)
     have D2 := Lib.hid (Parted.grow (D.out) hat4 RK.out)
     replace RK := Lib.hid (owns_beside RK.out hg4 (fun k h1 h2 => (D.out) k h2 h1))
     replace D := Lib.hid D2.out
     clear D2
     replace HG := Lib.hid (box_grown HG.out RS.out (by decide) hg4)
     replace RS := Lib.hid hown4
     clear hown4 hg4 hat4
     refine hK.out _ _ (fun _ _ => HS.out _ hA4) ?_
     clear hK K
     try simp only [Act.put, sq]
     refine won 7 rfl fun K hK => ?_
     refine step_append_texts (by rfl) _ _ (by rfl) WB.heap.size (.slice (some ⟨gb3, 0, none⟩) 0 0) 0 [] (by rfl) RK.out p1 c1 h.2.1 (by rfl) (HTx1.out _ hA4) (by omega) (by omega) hA4.size ?_
     intro v5 wa5 hown5 hg5 hat5
     rw [Nat.zero_add, List.nil_append] at hown5
     obtain ⟨tp, tc, rfl⟩ := owns_form hown5
     have hA5 : Below WB.heap.size WB wa5 := hA4.grown hg5 hA4.size (fun k hk => (RK.out.lt k hk).1)
     have D2 := Lib.hid (Parted.grow (D.out.flip) hat5 RS.out)
     replace RS := Lib.hid (owns_beside RS.out hg5 (fun k h1 h2 => (D.out.flip) k h2 h1))
     replace D := Lib.hid D2.out
     clear D2
     replace HG := Lib.hid (box_grown HG.out RK.out (by decide) hg5)
     replace RK := Lib.hid hown5
     clear hown5 hg5 hat5
     refine hK.out _ _ (fun _ _ => HS.out _ hA5) ?_
     clear hK K
     try simp only [Act.put, sq]
     refine won 8 rfl fun K hK => ?_
     go_simp
     refine hK.out _ _ (fun _ h => h) ?_
     clear hK K
     try simp only [Act.put, sq]
     refine won 10 rfl fun K hK => ?_
     obtain ⟨r0, r1, r2, f0, f1, f2, fl⟩ := box3 HG.out
     go_simp
     refine hK.out _ _ (fun h => absurd h (by decide)) ?_
     clear hK K r0 r1 r2 f0 f1 f2 fl
     try simp only [Act.put, sq]
     refine wpAnyM_done (by kernel_rfl) ?_ _
     try simp only [Act.put, sq]
     go_wp2_with fail
     go_meet
     exact ⟨_, _, _, rfl, out_done RS.out RK.out HG.out hA5 hlt2⟩
  ·go_simp
   have hA1 := hB0.alloc hB0.size (.cells #[] 9)
   have RK := Lib.hid (World.ownsRow_made (base := WB.heap.size) (size := 1) (e := 9) wd #[] 0 hB0.size (Nat.zero_le _) rfl)
   refine hK.out _ _ (fun _ _ => HS.out _ hA1) ?_
   clear hK K
   try simp only [Act.put, sq]
   obtain ⟨wa1, hwa1⟩ : ∃ q, wd.alloc (.cells #[] 9) = q := ⟨_, rfl⟩
   obtain ⟨gb1, hgb1⟩ : ∃ q, wd.heap.size = q := ⟨_, rfl⟩
   have hlt1 : WB.heap.size ≤ gb1 := by rw [← hgb1]; exact hB0.size
   simp only [hwa1, hgb1] at hA1 RK ⊢
   clear hwa1 hgb1
   refine wpAnyM_two 0 9 rfl rfl (by kernel_rfl) (fun K hK => ?_) (fun K hK => ?_)
   ·go_simp
    have hA2 := hA1.alloc hA1.size (.cells #[] 9)
    have RS := Lib.hid (World.ownsRow_made (base := WB.heap.size) (size := 1) (e := 9) wa1 #[] 0 hA1.size (Nat.zero_le _) rfl)
    have D := Lib.hid (Parted.new RK.out 0 0)
    replace RK := Lib.hid (RK.out.alloc (.cells #[] 9))
    refine hK.out _ _ (fun _ _ => HS.out _ hA2) ?_
    clear hK K
    try simp only [Act.put, sq]
    obtain ⟨wa2, hwa2⟩ : ∃ q, wa1.alloc (.cells #[] 9) = q := ⟨_, rfl⟩
    obtain ⟨gb2, hgb2⟩ : ∃ q, wa1.heap.size = q := ⟨_, rfl⟩
    have hlt2 : WB.heap.size ≤ gb2 := by rw [← hgb2]; exact hA1.size
    simp only [hwa2, hgb2] at hA2 RK RS D ⊢
    clear hwa2 hgb2
    refine wpAnyM_two 3 9 rfl rfl (by kernel_rfl) (fun K hK => ?_) (fun K hK => ?_)
    ·refine step_append_texts (by rfl) _ _ (by rfl) WB.heap.size (.slice (some ⟨gb2, 0, none⟩) 0 0) 0 [] (by rfl) RS.out p0 c0 h.1 (by rfl) (HTx0.out _ hA2) (by omega) (by omega) hA2.size ?_
     intro v3 wa3 hown3 hg3 hat3
     rw [Nat.zero_add, List.nil_append] at hown3
     obtain ⟨sp, sc, rfl⟩ := owns_form hown3
     have hA3 : Below WB.heap.size WB wa3 := hA2.grown hg3 hA2.size (fun k hk => (RS.out.lt k hk).1)
     have D2 := Lib.hid (Parted.grow (D.out.flip) hat3 RK.out)
     replace RK := Lib.hid (owns_beside RK.out hg3 (fun k h1 h2 => (D.out.flip) k h2 h1))
     replace D := Lib.hid D2.out
     clear D2
     replace RS := Lib.hid hown3
     clear hown3 hg3 hat3
     refine hK.out _ _ (fun _ _ => HS.out _ hA3) ?_
     clear hK K
     try simp only [Act.put, sq]
     refine wpAnyM_two 7 9 rfl rfl (by kernel_rfl) (fun K hK => ?_) (fun K hK => ?_)
     ·refine step_append_texts (by rfl) _ _ (by rfl) WB.heap.size (.slice (some ⟨gb1, 0, none⟩) 0 0) 0 [] (by rfl) RK.out p1 c1 h.2.1 (by rfl) (HTx1.out _ hA3) (by omega) (by omega) hA3.size ?_
      intro v4 wa4 hown4 hg4 hat4
      rw [Nat.zero_add, List.nil_append] at hown4
      obtain ⟨tp, tc, rfl⟩ := owns_form hown4
      have hA4 : Below WB.heap.size WB wa4 := hA3.grown hg4 hA3.size (fun k hk => (RK.out.lt k hk).1)
      have D2 := Lib.hid (Parted.grow (D.out.flip) hat4 RS.out)
      replace RS := Lib.hid (owns_beside RS.out hg4 (fun k h1 h2 => (D.out.flip) k h2 h1))
      replace D := Lib.hid D2.out
      clear D2
      replace RK := Lib.hid hown4
      clear hown4 hg4 hat4
      refine hK.out _ _ (fun _ _ => HS.out _ hA4) ?_
      clear hK K
      try simp only [Act.put, sq]
      refine wfr 8 (v := ?_) rfl ?_ ?_
      rotate_left
      ·intro w' hw';go_simp;try with_reducible rfl
      try simp only [Act.put, sq]
      refine won 9 rfl fun K hK => ?_
      go_simp
      have hA5 := hA4.alloc hA4.size (.cells #[.slice none 0 0, .slice none 0 0, .slice none 0 0] 25)
      have HG := Lib.hid (Blk.new wa4 25 [.slice none 0 0, .slice none 0 0, .slice none 0 0])
      replace RK := Lib.hid (RK.out.alloc (.cells #[.slice none 0 0, .slice none 0 0, .slice none 0 0] 25))
      replace RS := Lib.hid (RS.out.alloc (.cells #[.slice none 0 0, .slice none 0 0, .slice none 0 0] 25))
      refine hK.out _ _ (fun _ _ => HS.out _ hA5) ?_
      clear hK K
      try simp only [Act.put, sq]
      obtain ⟨wa5, hwa5⟩ : ∃ q, wa4.alloc (.cells #[.slice none 0 0, .slice none 0 0, .slice none 0 0] 25) = q := ⟨_, rfl⟩
      obtain ⟨gb5, hgb5⟩ : ∃ q, wa4.heap.size = q := ⟨_, rfl⟩
      have hlt5 : WB.heap.size ≤ gb5 := by rw [← hgb5]; exact hA4.size
      simp only [hwa5, hgb5] at hA5 RK RS D HG ⊢
      clear hwa5 hgb5
      refine won 10 rfl fun K hK => ?_
      obtain ⟨r0, r1, r2, f0, f1, f2, fl⟩ := box3 HG.out
      go_simp
      refine hK.out _ _ (fun h => absurd h (by decide)) ?_
      clear hK K r0 r1 r2 f0 f1 f2 fl
      try simp only [Act.put, sq]
      refine wpAnyM_done (by kernel_rfl) ?_ _
      try simp only [Act.put, sq]
      go_wp2_with fail
      go_meet
      exact ⟨_, _, _, rfl, out_done RS.out RK.out HG.out hA5 hlt5⟩
     ·go_simp
      have hA4 := hA3.alloc hA3.size (.cells #[.slice none 0 0, .slice none 0 0, .slice none 0 0] 25)
      have HG := Lib.hid (Blk.new wa3 25 [.slice none 0 0, .slice none 0 0, .slice none 0 0])
      replace RK := Lib.hid (RK.out.alloc (.cells #[.slice none 0 0, .slice none 0 0, .slice none 0 0] 25))
      replace RS := Lib.hid (RS.out.alloc (.cells #[.slice none 0 0, .slice none 0 0, .slice none 0 0] 25))
      refine hK.out _ _ (fun _ _ => HS.out _ hA4) ?_
      clear hK K
      try simp only [Act.put, sq]
      obtain ⟨wa4, hwa4⟩ : ∃ q, wa3.alloc (.cells #[.slice none 0 0, .slice none 0 0, .slice none 0 0] 25) = q := ⟨_, rfl⟩
      obtain ⟨gb4, hgb4⟩ : ∃ q, wa3.heap.size = q := ⟨_, rfl⟩
      have hlt4 : WB.heap.size ≤ gb4 := by rw [← hgb4]; exact hA3.size
      simp only [hwa4, hgb4] at hA4 RK RS D HG ⊢
      clear hwa4 hgb4
      refine won 7 rfl fun K hK => ?_
      refine step_append_texts (by rfl) _ _ (by rfl) WB.heap.size (.slice (some ⟨gb1, 0, none⟩) 0 0) 0 [] (by rfl) RK.out p1 c1 h.2.1 (by rfl) (HTx1.out _ hA4) (by omega) (by omega) hA4.size ?_
      intro v5 wa5 hown5 hg5 hat5
      rw [Nat.zero_add, List.nil_append] at hown5
      obtain ⟨tp, tc, rfl⟩ := owns_form hown5
      have hA5 : Below WB.heap.size WB wa5 := hA4.grown hg5 hA4.size (fun k hk => (RK.out.lt k hk).1)
      have D2 := Lib.hid (Parted.grow (D.out.flip) hat5 RS.out)
      replace RS := Lib.hid (owns_beside RS.out hg5 (fun k h1 h2 => (D.out.flip) k h2 h1))
      replace D := Lib.hid D2.out
      clear D2
      replace HG := Lib.hid (box_grown HG.out RK.out (by decide) hg5)
      replace RK := Lib.hid hown5
      clear hown5 hg5 hat5
      refine hK.out _ _ (fun _ _ => HS.out _ hA5) ?_
      clear hK K
      try simp only [Act.put, sq]
      refine won 8 rfl fun K hK => ?_
      go_simp
      refine hK.out _ _ (fun _ h => h) ?_
      clear hK K
      try simp only [Act.put, sq]
      refine won 10 rfl fun K hK => ?_
      obtain ⟨r0, r1, r2, f0, f1, f2, fl⟩ := box3 HG.out
      go_simp
      refine hK.out _ _ (fun h => absurd h (by decide)) ?_
      clear hK K r0 r1 r2 f0 f1 f2 fl
      try simp only [Act.put, sq]
      refine wpAnyM_done (by kernel_rfl) ?_ _
      try simp only [Act.put, sq]
      go_wp2_with fail
      go_meet
      exact ⟨_, _, _, rfl, out_done RS.out RK.out HG.out hA5 hlt4⟩
    ·go_simp
     have hA3 := hA2.alloc hA2.size (.cells #[.slice none 0 0, .slice none 0 0, .slice none 0 0] 25)
     have HG := Lib.hid (Blk.new wa2 25 [.slice none 0 0, .slice none 0 0, .slice none 0 0])
     replace RK := Lib.hid (RK.out.alloc (.cells #[.slice none 0 0, .slice none 0 0, .slice none 0 0] 25))
     replace RS := Lib.hid (RS.out.alloc (.cells #[.slice none 0 0, .slice none 0 0, .slice none 0 0] 25))
     refine hK.out _ _ (fun _ _ => HS.out _ hA3) ?_
     clear hK K
     try simp only [Act.put, sq]
     obtain ⟨wa3, hwa3⟩ : ∃ q, wa2.alloc (.cells #[.slice none 0 0, .slice none 0 0, .slice none 0 0] 25) = q := ⟨_, rfl⟩
     obtain ⟨gb3, hgb3⟩ : ∃ q, wa2.heap.size = q := ⟨_, rfl⟩
     have hlt3 : WB.heap.size ≤ gb3 := by rw [← hgb3]; exact hA2.size
     simp only [hwa3, hgb3] at hA3 RK RS D HG ⊢
     clear hwa3 hgb3
     refine won 3 rfl fun K hK => ?_
     refine step_append_texts (by rfl) _ _ (by rfl) WB.heap.size (.slice (some ⟨gb2, 0, none⟩) 0 0) 0 [] (by rfl) RS.out p0 c0 h.1 (by rfl) (HTx0.out _ hA3) (by omega) (by omega) hA3.size ?_
     intro v4 wa4 hown4 hg4 hat4
     rw [Nat.zero_add, List.nil_append] at hown4
     obtain ⟨sp, sc, rfl⟩ := owns_form hown4
     have hA4 : Below WB.heap.size WB wa4 := hA3.grown hg4 hA3.size (fun k hk => (RS.out.lt k hk).1)
     have D2 := Lib.hid (Parted.grow (D.out.flip) hat4 RK.out)
     replace RK := Lib.hid (owns_beside RK.out hg4 (fun k h1 h2 => (D.out.flip) k h2 h1))
     replace D := Lib.hid D2.out
     clear D2
     replace HG := Lib.hid (box_grown HG.out RS.out (by decide) hg4)
     replace RS := Lib.hid hown4
     clear hown4 hg4 hat4
     refine hK.out _ _ (fun _ _ => HS.out _ hA4) ?_
     clear hK K
     try simp only [Act.put, sq]
     refine won 7 rfl fun K hK => ?_
     refine step_append_texts (by rfl) _ _ (by rfl) WB.heap.size (.slice (some ⟨gb1, 0, none⟩) 0 0) 0 [] (by rfl) RK.out p1 c1 h.2.1 (by rfl) (HTx1.out _ hA4) (by omega) (by omega) hA4.size ?_
     intro v5 wa5 hown5 hg5 hat5
     rw [Nat.zero_add, List.nil_append] at hown5
     obtain ⟨tp, tc, rfl⟩ := owns_form hown5
     have hA5 : Below WB.heap.size WB wa5 := hA4.grown hg5 hA4.size (fun k hk => (RK.out.lt k hk).1)
     have D2 := Lib.hid (Parted.grow (D.out.flip) hat5 RS.out)
     replace RS := Lib.hid (owns_beside RS.out hg5 (fun k h1 h2 => (D.out.flip) k h2 h1))
     replace D := Lib.hid D2.out
     clear D2
     replace HG := Lib.hid (box_grown HG.out RK.out (by decide) hg5)
     replace RK := Lib.hid hown5
     clear hown5 hg5 hat5
     refine hK.out _ _ (fun _ _ => HS.out _ hA5) ?_
     clear hK K
     try simp only [Act.put, sq]
     refine won 8 rfl fun K hK => ?_
     go_simp
     refine hK.out _ _ (fun _ h => h) ?_
     clear hK K
     try simp only [Act.put, sq]
     refine won 10 rfl fun K hK => ?_
     obtain ⟨r0, r1, r2, f0, f1, f2, fl⟩ := box3 HG.out
     go_simp
     refine hK.out _ _ (fun h => absurd h (by decide)) ?_
     clear hK K r0 r1 r2 f0 f1 f2 fl
     try simp only [Act.put, sq]
     refine wpAnyM_done (by kernel_rfl) ?_ _
     try simp only [Act.put, sq]
     go_wp2_with fail
     go_meet
     exact ⟨_, _, _, rfl, out_done RS.out RK.out HG.out hA5 hlt3⟩
   ·go_simp
    have hA2 := hA1.alloc hA1.size (.cells #[.slice none 0 0, .slice none 0 0, .slice none 0 0] 25)
    have HG := Lib.hid (Blk.new wa1 25 [.slice none 0 0, .slice none 0 0, .slice none 0 0])
    replace RK := Lib.hid (RK.out.alloc (.cells #[.slice none 0 0, .slice none 0 0, .slice none 0 0] 25))
    refine hK.out _ _ (fun _ _ => HS.out _ hA2) ?_
    clear hK K
    try simp only [Act.put, sq]
    obtain ⟨wa2, hwa2⟩ : ∃ q, wa1.alloc (.cells #[.slice none 0 0, .slice none 0 0, .slice none 0 0] 25) = q := ⟨_, rfl⟩
    obtain ⟨gb2, hgb2⟩ : ∃ q, wa1.heap.size = q := ⟨_, rfl⟩
    have hlt2 : WB.heap.size ≤ gb2 := by rw [← hgb2]; exact hA1.size
    simp only [hwa2, hgb2] at hA2 RK HG ⊢
    clear hwa2 hgb2
    refine won 0 rfl fun K hK => ?_
    go_simp
    have hA3 := hA2.alloc hA2.size (.cells #[] 9)
    have RS := Lib.hid (World.ownsRow_made (base := WB.heap.size) (size := 1) (e := 9) wa2 #[] 0 hA2.size (Nat.zero_le _) rfl)
    have D := Lib.hid (Parted.new RK.out 0 0)
    replace RK := Lib.hid (RK.out.alloc (.cells #[] 9))
    replace HG := Lib.hid (HG.out.alloc (.cells #[] 9))
    refine hK.out _ _ (fun _ _ => HS.out _ hA3) ?_
    clear hK K
    try simp only [Act.put, sq]
    obtain ⟨wa3, hwa3⟩ : ∃ q, wa2.alloc (.cells #[] 9) = q := ⟨_, rfl⟩
    obtain ⟨gb3, hgb3⟩ : ∃ q, wa2.heap.size = q := ⟨_, rfl⟩
    have hlt3 : WB.heap.size ≤ gb3 := by rw [← hgb3]; exact hA2.size
    simp only [hwa3, hgb3] at hA3 RK HG RS D ⊢
    clear hwa3 hgb3
    refine won 3 rfl fun K hK => ?_
    refine step_append_texts (by rfl) _ _ (by rfl) WB.heap.size (.slice (some ⟨gb3, 0, none⟩) 0 0) 0 [] (by rfl) RS.out p0 c0 h.1 (by rfl) (HTx0.out _ hA3) (by omega) (by omega) hA3.size ?_
    intro v4 wa4 hown4 hg4 hat4
    rw [Nat.zero_add, List.nil_append] at hown4
    obtain ⟨sp, sc, rfl⟩ := owns_form hown4
    have hA4 : Below WB.heap.size WB wa4 := hA3.grown hg4 hA3.size (fun k hk => (RS.out.lt k hk).1)
    have D2 := Lib.hid (Parted.grow (D.out.flip) hat4 RK.out)
    replace RK := Lib.hid (owns_beside RK.out hg4 (fun k h1 h2 => (D.out.flip) k h2 h1))
    replace D := Lib.hid D2.out
    clear D2
    replace HG := Lib.hid (box_grown HG.out RS.out (by decide) hg4)
    replace RS := Lib.hid hown4
    clear hown4 hg4 hat4
    refine hK.out _ _ (fun _ _ => HS.out _ hA4) ?_
    clear hK K
    try simp only [Act.put, sq]
    refine won 7 rfl fun K hK => ?_
    refine step_append_texts (by rfl) _ _ (by rfl) WB.heap.size (.slice (some ⟨gb1, 0, none⟩) 0 0) 0 [] (by rfl) RK.out p1 c1 h.2.1 (by rfl) (HTx1.out _ hA4) (by omega) (by omega) hA4.size ?_
    intro v5 wa5 hown5 hg5 hat5
    rw [Nat.zero_add, List.nil_append] at hown5
    obtain ⟨tp, tc, rfl⟩ := owns_form hown5
    have hA5 : Below WB.heap.size WB wa5 := hA4.grown hg5 hA4.size (fun k hk => (RK.out.lt k hk).1)
    have D2 := Lib.hid (Parted.grow (D.out.flip) hat5 RS.out)
    replace RS := Lib.hid (owns_beside RS.out hg5 (fun k h1 h2 => (D.out.flip) k h2 h1))
    replace D := Lib.hid D2.out
    clear D2
    replace HG := Lib.hid (box_grown HG.out RK.out (by decide) hg5)
    replace RK := Lib.hid hown5
    clear hown5 hg5 hat5
    refine hK.out _ _ (fun _ _ => HS.out _ hA5) ?_
    clear hK K
    try simp only [Act.put, sq]
    refine won 8 rfl fun K hK => ?_
    go_simp
    refine hK.out _ _ (fun _ h => h) ?_
    clear hK K
    try simp only [Act.put, sq]
    refine won 10 rfl fun K hK => ?_
    obtain ⟨r0, r1, r2, f0, f1, f2, fl⟩ := box3 HG.out
    go_simp
    refine hK.out _ _ (fun h => absurd h (by decide)) ?_
    clear hK K r0 r1 r2 f0 f1 f2 fl
    try simp only [Act.put, sq]
    refine wpAnyM_done (by kernel_rfl) ?_ _
    try simp only [Act.put, sq]
    go_wp2_with fail
    go_meet
    exact ⟨_, _, _, rfl, out_done RS.out RK.out HG.out hA5 hlt2⟩
  ·go_simp
   have hA1 := hB0.alloc hB0.size (.cells #[.slice none 0 0, .slice none 0 0, .slice none 0 0] 25)
   have HG := Lib.hid (Blk.new wd 25 [.slice none 0 0, .slice none 0 0, .slice none 0 0])
   refine hK.out _ _ (fun _ _ => HS.out _ hA1) ?_
   clear hK K
   try simp only [Act.put, sq]
   obtain ⟨wa1, hwa1⟩ : ∃ q, wd.alloc (.cells #[.slice none 0 0, .slice none 0 0, .slice none 0 0] 25) = q := ⟨_, rfl⟩
   obtain ⟨gb1, hgb1⟩ : ∃ q, wd.heap.size = q := ⟨_, rfl⟩
   have hlt1 : WB.heap.size ≤ gb1 := by rw [← hgb1]; exact hB0.size
   simp only [hwa1, hgb1] at hA1 HG ⊢
   clear hwa1 hgb1
   refine wpAnyM_two 0 4 rfl rfl (by kernel_rfl) (fun K hK => ?_) (fun K hK => ?_)
   ·go_simp
    have hA2 := hA1.alloc hA1.size (.cells #[] 9)
    have RS := Lib.hid (World.ownsRow_made (base := WB.heap.size) (size := 1) (e := 9) wa1 #[] 0 hA1.size (Nat.zero_le _) rfl)
    replace HG := Lib.hid (HG.out.alloc (.cells #[] 9))
    refine hK.out _ _ (fun _ _ => HS.out _ hA2) ?_
    clear hK K
    try simp only [Act.put, sq]
    obtain ⟨wa2, hwa2⟩ : ∃ q, wa1.alloc (.cells #[] 9) = q := ⟨_, rfl⟩
    obtain ⟨gb2, hgb2⟩ : ∃ q, wa1.heap.size = q := ⟨_, rfl⟩
    have hlt2 : WB.heap.size ≤ gb2 := by rw [← hgb2]; exact hA1.size
    simp only [hwa2, hgb2] at hA2 HG RS ⊢
    clear hwa2 hgb2
    refine wpAnyM_two 3 4 rfl rfl (by kernel_rfl) (fun K hK => ?_) (fun K hK => ?_)
    ·refine step_append_texts (by rfl) _ _ (by rfl) WB.heap.size (.slice (some ⟨gb2, 0, none⟩) 0 0) 0 [] (by rfl) RS.out p0 c0 h.1 (by rfl) (HTx0.out _ hA2) (by omega) (by omega) hA2.size ?_
     intro v3 wa3 hown3 hg3 hat3
     rw [Nat.zero_add, List.nil_append] at hown3
     obtain ⟨sp, sc, rfl⟩ := owns_form hown3
     have hA3 : Below WB.heap.size WB wa3 := hA2.grown hg3 hA2.size (fun k hk => (RS.out.lt k hk).1)
     replace HG := Lib.hid (box_grown HG.out RS.out (by decide) hg3)
     replace RS := Lib.hid hown3
     clear hown3 hg3 hat3
     refine hK.out _ _ (fun _ _ => HS.out _ hA3) ?_
     clear hK K
     try simp only [Act.put, sq]
     refine won 4 rfl fun K hK => ?_
     go_simp
     have hA4 := hA3.alloc hA3.size (.cells #[] 9)
     have RK := Lib.hid (World.ownsRow_made (base := WB.heap.size) (size := 1) (e := 9) wa3 #[] 0 hA3.size (Nat.zero_le _) rfl)
     have D := Lib.hid (Parted.new RS.out 0 0)
     replace HG := Lib.hid (HG.out.alloc (.cells #[] 9))
     replace RS := Lib.hid (RS.out.alloc (.cells #[] 9))
     refine hK.out _ _ (fun _ _ => HS.out _ hA4) ?_
     clear hK K
     try simp only [Act.put, sq]
     obtain ⟨wa4, hwa4⟩ : ∃ q, wa3.alloc (.cells #[] 9) = q := ⟨_, rfl⟩
     obtain ⟨gb4, hgb4⟩ : ∃ q, wa3.heap.size = q := ⟨_, rfl⟩
     have hlt4 : WB.heap.size ≤ gb4 := by rw [← hgb4]; exact hA3.size
     simp only [hwa4, hgb4] at hA4 HG RS RK D ⊢
     clear hwa4 hgb4
     refine won 7 rfl fun K hK => ?_
     refine step_append_texts (by rfl) _ _ (by rfl) WB.heap.size (.slice (some ⟨gb4, 0, none⟩) 0 0) 0 [] (by rfl) RK.out p1 c1 h.2.1 (by rfl) (HTx1.out _ hA4) (by omega) (by omega) hA4.size ?_
     intro v5 wa5 hown5 hg5 hat5
     rw [Nat.zero_add, List.nil_append] at hown5
     obtain ⟨tp, tc, rfl⟩ := owns_form hown5
     have hA5 : Below WB.heap.size WB wa5 := hA4.grown hg5 hA4.size (fun k hk => (RK.out.lt k hk).1)
     have D2 := Lib.hid (Parted.grow (D.out.flip) hat5 RS.out)
     replace RS := Lib.hid (owns_beside RS.out hg5 (fun k h1 h2 => (D.out.flip) k h2 h1))
     replace D := Lib.hid D2.out
     clear D2
     replace HG := Lib.hid (box_grown HG.out RK.out (by decide) hg5)
     replace RK := Lib.hid hown5
     clear hown5 hg5 hat5
     refine hK.out _ _ (fun _ _ => HS.out _ hA5) ?_
     clear hK K
     try simp only [Act.put, sq]
     refine won 8 rfl fun K hK => ?_
     go_simp
     refine hK.out _ _ (fun _ h => h) ?_
     clear hK K
     try simp only [Act.put, sq]
     refine won 10 rfl fun K hK => ?_
     obtain ⟨r0, r1, r2, f0, f1, f2, fl⟩ := box3 HG.out
     go_simp
     refine hK.out _ _ (fun h => absurd h (by decide)) ?_
     clear hK K r0 r1 r2 f0 f1 f2 fl
     try simp only [Act.put, sq]
     refine wpAnyM_done (by kernel_rfl) ?_ _
     try simp only [Act.put, sq]
     go_wp2_with fail
     go_meet
     exact ⟨_, _, _, rfl, out_done RS.out RK.out HG.out hA5 hlt1⟩
    ·go_simp
     have hA3 := hA2.alloc hA2.size (.cells #[] 9)
     have RK := Lib.hid (World.ownsRow_made (base := WB.heap.size) (size := 1) (e := 9) wa2 #[] 0 hA2.size (Nat.zero_le _) rfl)
     have D := Lib.hid (Parted.new RS.out 0 0)
     replace HG := Lib.hid (HG.out.alloc (.cells #[] 9))
     replace RS := Lib.hid (RS.out.alloc (.cells #[] 9))
     refine hK.out _ _ (fun _ _ => HS.out _ hA3) ?_
     clear hK K
     try simp only [Act.put, sq]
     obtain ⟨wa3, hwa3⟩ : ∃ q, wa2.alloc (.cells #[] 9) = q := ⟨_, rfl⟩
     obtain ⟨gb3, hgb3⟩ : ∃ q, wa2.heap.size = q := ⟨_, rfl⟩
     have hlt3 : WB.heap.size ≤ gb3 := by rw [← hgb3]; exact hA2.size
     simp only [hwa3, hgb3] at hA3 HG RS RK D ⊢
     clear hwa3 hgb3
     refine won 3 rfl fun K hK => ?_
     refine step_append_texts (by rfl) _ _ (by rfl) WB.heap.size (.slice (some ⟨gb2, 0, none⟩) 0 0) 0 [] (by rfl) RS.out p0 c0 h.1 (by rfl) (HTx0.out _ hA3) (by omega) (by omega) hA3.size ?_
     intro v4 wa4 hown4 hg4 hat4
     rw [Nat.zero_add, List.nil_append] at hown4
     obtain ⟨sp, sc, rfl⟩ := owns_form hown4
     have hA4 : Below WB.heap.size WB wa4 := hA3.grown hg4 hA3.size (fun k hk => (RS.out.lt k hk).1)
     have D2 := Lib.hid (Parted.grow (D.out) hat4 RK.out)
     replace RK := Lib.hid (owns_beside RK.out hg4 (fun k h1 h2 => (D.out) k h2 h1))
     replace D := Lib.hid D2.out
     clear D2
     replace HG := Lib.hid (box_grown HG.out RS.out (by decide) hg4)
     replace RS := Lib.hid hown4
     clear hown4 hg4 hat4
     refine hK.out _ _ (fun _ _ => HS.out _ hA4) ?_
     clear hK K
     try simp only [Act.put, sq]
     refine won 7 rfl fun K hK => ?_
     refine step_append_texts (by rfl) _ _ (by rfl) WB.heap.size (.slice (some ⟨gb3, 0, none⟩) 0 0) 0 [] (by rfl) RK.out p1 c1 h.2.1 (by rfl) (HTx1.out _ hA4) (by omega) (by omega) hA4.size ?_
     intro v5 wa5 hown5 hg5 hat5
     rw [Nat.zero_add, List.nil_append] at hown5
     obtain ⟨tp, tc, rfl⟩ := owns_form hown5
     have hA5 : Below WB.heap.size WB wa5 := hA4.grown hg5 hA4.size (fun k hk => (RK.out.lt k hk).1)
     have D2 := Lib.hid (Parted.grow (D.out.flip) hat5 RS.out)
     replace RS := Lib.hid (owns_beside RS.out hg5 (fun k h1 h2 => (D.out.flip) k h2 h1))
     replace D := Lib.hid D2.out
     clear D2
     replace HG := Lib.hid (box_grown HG.out RK.out (by decide) hg5)
     replace RK := Lib.hid hown5
     clear hown5 hg5 hat5
     refine hK.out _ _ (fun _ _ => HS.out _ hA5) ?_
     clear hK K
     try simp only [Act.put, sq]
     refine won 8 rfl fun K hK => ?_
     go_simp
     refine hK.out _ _ (fun _ h => h) ?_
     clear hK K
     try simp only [Act.put, sq]
     refine won 10 rfl fun K hK => ?_
     obtain ⟨r0, r1, r2, f0, f1, f2, fl⟩ := box3 HG.out
     go_simp
     refine hK.out _ _ (fun h => absurd h (by decide)) ?_
     clear hK K r0 r1 r2 f0 f1 f2 fl
     try simp only [Act.put, sq]
     refine wpAnyM_done (by kernel_rfl) ?_ _
     try simp only [Act.put, sq]
     go_wp2_with fail
     go_meet
     exact ⟨_, _, _, rfl, out_done RS.out RK.out HG.out hA5 hlt1⟩
   ·go_simp
    have hA2 := hA1.alloc hA1.size (.cells #[] 9)
    have RK := Lib.hid (World.ownsRow_made (base := WB.heap.size) (size := 1) (e := 9) wa1 #[] 0 hA1.size (Nat.zero_le _) rfl)
    replace HG := Lib.hid (HG.out.alloc (.cells #[] 9))
    refine hK.out _ _ (fun _ _ => HS.out _ hA2) ?_
    clear hK K
    try simp only [Act.put, sq]
    obtain ⟨wa2, hwa2⟩ : ∃ q, wa1.alloc (.cells #[] 9) = q := ⟨_, rfl⟩
    obtain ⟨gb2, hgb2⟩ : ∃ q, wa1.heap.size = q := ⟨_, rfl⟩
    have hlt2 : WB.heap.size ≤ gb2 := by rw [← hgb2]; exact hA1.size
    simp only [hwa2, hgb2] at hA2 HG RK ⊢
    clear hwa2 hgb2
    refine won 0 rfl fun K hK => ?_
    go_simp
    have hA3 := hA2.alloc hA2.size (.cells #[] 9)
    have RS := Lib.hid (World.ownsRow_made (base := WB.heap.size) (size := 1) (e := 9) wa2 #[] 0 hA2.size (Nat.zero_le _) rfl)
    have D := Lib.hid (Parted.new RK.out 0 0)
    replace HG := Lib.hid (HG.out.alloc (.cells #[] 9))
    replace RK := Lib.hid (RK.out.alloc (.cells #[] 9))
    refine hK.out _ _ (fun _ _ => HS.out _ hA3) ?_
    clear hK K
    try simp only [Act.put, sq]
    obtain ⟨wa3, hwa3⟩ : ∃ q, wa2.alloc (.cells #[] 9) = q := ⟨_, rfl⟩
    obtain ⟨gb3, hgb3⟩ : ∃ q, wa2.heap.size = q := ⟨_, rfl⟩
    have hlt3 : WB.heap.size ≤ gb3 := by rw [← hgb3]; exact hA2.size
    simp only [hwa3, hgb3] at hA3 HG RK RS D ⊢
    clear hwa3 hgb3
    refine won 3 rfl fun K hK => ?_
    refine step_append_texts (by rfl) _ _ (by rfl) WB.heap.size (.slice (some ⟨gb3, 0, none⟩) 0 0) 0 [] (by rfl) RS.out p0 c0 h.1 (by rfl) (HTx0.out _ hA3) (by omega) (by omega) hA3.size ?_
    intro v4 wa4 hown4 hg4 hat4
    rw [Nat.zero_add, List.nil_append] at hown4
    obtain ⟨sp, sc, rfl⟩ := owns_form hown4
    have hA4 : Below WB.heap.size WB wa4 := hA3.grown hg4 hA3.size (fun k hk => (RS.out.lt k hk).1)
    have D2 := Lib.hid (Parted.grow (D.out.flip) hat4 RK.out)
    replace RK := Lib.hid (owns_beside RK.out hg4 (fun k h1 h2 => (D.out.flip) k h2 h1))
    replace D := Lib.hid D2.out
    clear D2
    replace HG := Lib.hid (box_grown HG.out RS.out (by decide) hg4)
    replace RS := Lib.hid hown4
    clear hown4 hg4 hat4
    refine hK.out _ _ (fun _ _ => HS.out _ hA4) ?_
    clear hK K
    try simp only [Act.put, sq]
    refine won 7 rfl fun K hK => ?_
    refine step_append_texts (by rfl) _ _ (by rfl) WB.heap.size (.slice (some ⟨gb2, 0, none⟩) 0 0) 0 [] (by rfl) RK.out p1 c1 h.2.1 (by rfl) (HTx1.out _ hA4) (by omega) (by omega) hA4.size ?_
    intro v5 wa5 hown5 hg5 hat5
    rw [Nat.zero_add, List.nil_append] at hown5
    obtain ⟨tp, tc, rfl⟩ := owns_form hown5
    have hA5 : Below WB.heap.size WB wa5 := hA4.grown hg5 hA4.size (fun k hk => (RK.out.lt k hk).1)
    have D2 := Lib.hid (Parted.grow (D.out.flip) hat5 RS.out)
    replace RS := Lib.hid (owns_beside RS.out hg5 (fun k h1 h2 => (D.out.flip) k h2 h1))
    replace D := Lib.hid D2.out
    clear D2
    replace HG := Lib.hid (box_grown HG.out RK.out (by decide) hg5)
    replace RK := Lib.hid hown5
    clear hown5 hg5 hat5
    refine hK.out _ _ (fun _ _ => HS.out _ hA5) ?_
    clear hK K
    try simp only [Act.put, sq]
    refine won 8 rfl fun K hK => ?_
    go_simp
    refine hK.out _ _ (fun _ h => h) ?_
    clear hK K
    try simp only [Act.put, sq]
    refine won 10 rfl fun K hK => ?_
    obtain ⟨r0, r1, r2, f0, f1, f2, fl⟩ := box3 HG.out
    go_simp
    refine hK.out _ _ (fun h => absurd h (by decide)) ?_
    clear hK K r0 r1 r2 f0 f1 f2 fl
    try simp only [Act.put, sq]
    refine wpAnyM_done (by kernel_rfl) ?_ _
    try simp only [Act.put, sq]
    go_wp2_with fail
    go_meet
    exact ⟨_, _, _, rfl, out_done RS.out RK.out HG.out hA5 hlt1⟩
 case rest =>
  obtain ⟨vs, vk, G, rfl, hs, hk, hg, hbx, hG⟩ := hcut
  obtain ⟨WC, rfl⟩ : ∃ q, q = wc := ⟨_, rfl⟩
  have hRl : w.heap.size + 1 + 1 < WB.heap.size := HR.out.lt
  have hGl := hg.lt
  replace HPx := Lib.hid (HPx.out.later hbx)
  replace HPw := Lib.hid (HPw.out.later hbx)
  replace HR := Lib.hid (HR.out.later hbx)
  replace HB := Lib.hid (below_next HB.out hbx)
  have HSs := Lib.hid hs
  have HSk := Lib.hid hk
  have HGg := Lib.hid hg
  clear HS hs hk hg hbx HTx0 HTx1
  have x0 := HPx.out.cell 0 rfl
  have x1 := HPx.out.cell 1 rfl
  have x2 := HPx.out.cell 2 rfl
  have u0 := HPw.out.cell 0 rfl
  have u1 := HPw.out.cell 1 rfl
  have y0 := HR.out.cell 0 rfl
  have y1 := HR.out.cell 1 rfl
  have y2 := HR.out.cell 2 rfl
  have g0 := HR.out.frozen 0
  have g1 := HR.out.frozen 1
  have g2 := HR.out.frozen 2
  go_wp2_with fail
  refine (rcommits16_any (H0.out.below HB.out) (U0.out.below HB.out) HMod.out H50.out HMW.out.c).mono ?_
  rintro e WD ⟨vc, rfl, hrc, hbd⟩
  obtain ⟨pc, cc, rfl⟩ := owns_form hrc
  have HRc := Lib.hid (owns_base hrc (Nat.zero_le _))
  clear x0 x1 x2 u0 u1 y0 y1 y2 g0 g1 g2
  obtain ⟨C, hC⟩ : ∃ C, commitsG h.2.2 m.1 = C := ⟨_, rfl⟩
  have HCl : RowKit.Hid (C.length = h.2.2.length) := Lib.hid (by rw [← hC, commits_len])
  rw [hC] at HRc
  have HE2 : RowKit.Hid (makeH h m = (h.1, h.2.1, makeG h.2.2 C m.2)) := Lib.hid (by rw [← hC]; rfl)
  obtain ⟨N, hN⟩ : ∃ N, WD.heap.size = N := ⟨_, rfl⟩
  have hst : MkT w N G WD (.slice p0 h.1.length c0) (.slice p1 h.2.1.length c1) (.slice p2 h.2.2.length c2) vs vk (.slice none 0 0) (.slice pc h.2.2.length cc) (.slice pb m.1.length cb) (.slice pv m.2.length cv) h.1 h.2.1 C [] := ⟨World.ownsRow_nil _ _ _ _, (fun t ht => by cases ht), owns_later HSs.out hbd, owns_later HSk.out hbd, by rw [HCl.out]; exact HRc.out, HPx.out.later hbd, HPw.out.later hbd, HR.out.later hbd, HGg.out.later hbd, below_next HB.out hbd, Nat.le_of_eq hN.symm, by have := hbd.size; omega, by omega⟩
  have HST0 := Lib.hid hst
  clear hst hC hN hrc hbd
  go_wp2_with fail
  go_loopw [7, 8] (fun l i wr => ∃ (k : Nat) (vt : Value) (LV : List TxnV), k ≤ h.2.2.length ∧ i = .int .i64 k ∧ l = .int .i64 (nLL h.2.2 k : Nat) ∧ LV.map (·.1) = (makeG h.2.2 C m.2).take k ∧ MkT w N G wr (.slice p0 h.1.length c0) (.slice p1 h.2.1.length c1) (.slice p2 h.2.2.length c2) vs vk vt (.slice pc h.2.2.length cc) (.slice pb m.1.length cb) (.slice pv m.2.length cv) h.1 h.2.1 C LV) (fun _ i _ => h.2.2.length - (RowKit.intOf i).toNat)
  case atStart => exact ⟨0, _, [], Nat.zero_le _, rfl, rfl, rfl, HST0.out⟩
  case round =>
   obtain ⟨wo, rfl⟩ : ∃ q, q = wr := ⟨_, rfl⟩
   obtain ⟨k, vt, LV, hk, rfl, hleft, hLV, st⟩ := hrel
   have hll : LV.length = k := by
    have h9 := congrArg List.length hLV
    rw [List.length_map, List.length_take, make_len] at h9
    omega
   have HLl := Lib.hid hll
   have x2 := st.h.cell 2 rfl
   clear hll
   by_cases hk1 : k < h.2.2.length
   ·obtain ⟨g, sv, rfl, a1, a2, a3, a4⟩ := HX.out k hk1
    have htl : (h.2.2.getD k noTxn).2.2.length ≤ 1000 := by
     have e : h.2.2.getD k noTxn = h.2.2[k] := by simp [hk1]
     rw [e]
     exact HMod.out.2.2.2.2.2 _ (List.getElem_mem hk1)
    have a1 := cell_later st.b a1
    have a2 := cell_later st.b a2
    have a3 := cell_later st.b a3
    have hnx := make_next h.2.2 C m.2 k hk1
    have hmt : makeT h.2.2 C m.2 k = ((h.2.2.getD k noTxn).1, (if C.getD k false then 1 else 2), (fillG (h.2.2.getD k noTxn).2.2 (m.2.drop (nLL h.2.2 k))).1) := rfl
    have hl1 := nLL_next h.2.2 k hk1
    have hl2 := nLL_le h.2.2 k hk1
    rw [hmt] at hnx
    clear hmt
    have hil := st.i
    rw [HCl.out] at hil
    obtain ⟨gc, rfl⟩ := owns_posp hil (by omega)
    have HCc := Lib.hid (fun w' (hb : Below wo.heap.size wo w') => ((owns_later hil hb).cellAt k (by omega)).trans (bools_at C k (by rw [HCl.out]; exact hk1)))
    have hgcl : gc < wo.heap.size := (hil.lt gc rfl).2
    clear hil
    obtain ⟨b, hb⟩ : ∃ b, C.getD k false = b := ⟨_, rfl⟩
    rw [hb] at hnx HCc
    obtain ⟨⟨ts, tf, tl⟩, htt⟩ : ∃ q, h.2.2.getD k noTxn = q := ⟨_, rfl⟩
    rw [htt] at a1 a2 a4 htl hnx hl1 hl2
    dsimp only at a1 a2 a4 htl hl1 hl2
    obtain ⟨p3, c3, rfl, hcap3, hops⟩ := a4
    have HO : RowKit.Hid (OpsS w (.slice p3 tl.length c3) tl) := Lib.hid ⟨p3, c3, rfl, hcap3, hops⟩
    have HNx := Lib.hid hnx
    have HLV := Lib.hid hLV
    have HL1 := Lib.hid hl1
    have HL2 : RowKit.Hid (nLL h.2.2 k + (tl.filter lostO).length ≤ m.2.length) := Lib.hid (by rw [HMW.out.l]; exact hl2)
    have HLe := Lib.hid hleft
    have SD := Lib.hid st
    have HWS : RowKit.Hid (w.heap.size + 1 + 1 < G ∧ G < N ∧ N ≤ wo.heap.size) := Lib.hid ⟨st.e, st.d, st.c⟩
    have HTb := Lib.hid (Blk.new wo 47 [.int .i64 ts, .int .i64 tf, .slice p3 tl.length c3])
    have HAt := Lib.hid ((Below.refl wo.heap.size wo).alloc (Nat.le_refl _) (.cells #[.int .i64 ts, .int .i64 tf, .slice p3 tl.length c3] 47))
    clear hops hnx hb htt hLV hl1 hl2 hleft st hcap3
    go_upto_region 7 with fail
    clear x2
    go_cut [9] (fun s9 wx => s9 = .pointer (some ⟨wo.heap.size, 0, none⟩) ∧ ∃ v5, Blk wx wo.heap.size 47 [.int .i64 ts, .int .i64 tf, v5] ∧ wx.ownsRow (wo.heap.size + 1) 51 4 v5 tl.length (opsCells tl) ∧ Below wo.heap.size wo wx)
    case first =>
     obtain ⟨wt, hwt⟩ : ∃ q, wo.alloc (.cells #[.int .i64 ts, .int .i64 tf, .slice p3 tl.length c3] 47) = q := ⟨_, rfl⟩
     rw [hwt] at HTb HAt ⊢
     have HWz : RowKit.Hid (wt.heap.size = wo.heap.size + 1) := Lib.hid (by rw [← hwt]; simp)
     have hwl : wo.heap.size < wt.heap.size := HTb.out.lt
     clear hwt a1 a2 a3
     have z2 := HTb.out.cell 2 rfl
     have f2 := HTb.out.frozen 2
     have HOt := Lib.hid (HO.out.below (below_next SD.out.b HAt.out))
     have HRm := Lib.hid (World.ownsRow_made (base := wt.heap.size) (size := 4) (e := 51) wt #[] 0 (Nat.le_refl _) (Nat.zero_le _) rfl)
     cases p3 with
     | none =>
      have hnil : tl = [] := by
       obtain ⟨p', c', e, -, hc⟩ := HOt.out
       injection e with e1 _ _
       subst e1
       cases tl with
       | nil => rfl
       | cons o r => obtain ⟨g', e', -⟩ := hc 0 (by simp); cases e'
      subst hnil
      go_wp2_with fail
      go_meet
      refine ⟨rfl, .slice (some ⟨wt.heap.size, 0, none⟩) 0 0, ?_, ?_, ?_⟩
      ·first
        | exact (HTb.out.set 2 _).alloc _
        | exact (HTb.out.alloc _).set 2 _
      ·have h8 := World.ownsRow_made (base := wo.heap.size + 1) (size := 4) (e := 51) (wt.setCell ⟨wo.heap.size, 2, none⟩ (.slice (some ⟨wt.heap.size, 0, none⟩) 0 0)) #[] 0 (by rw [set_size]; exact hwl) (Nat.zero_le _) rfl
       rw [set_size] at h8
       have h9 := owns_far (base := wt.heap.size) HRm.out (a := ⟨wo.heap.size, 2, none⟩) hwl (.slice (some ⟨wt.heap.size, 0, none⟩) 0 0)
       first
        | exact h8
        | (rw [HWz.out] at h9; exact h9)
      ·first
        | exact (HAt.out.setCell (p := ⟨wo.heap.size, 2, none⟩) (Nat.le_refl _) _).alloc (by rw [set_size]; exact HAt.out.size) _
        | exact (HAt.out.alloc HAt.out.size _).setCell (Nat.le_refl _) _
     | some a5 =>
      go_wp2_with (at_builtin; refine wpList_append_own _ rfl _ _ 45 rfl wt.heap.size 51 i3 (.agg #[.bool false, .int .i64 0, .int .i64 0, .int .i64 0]) 4 32 Tryz.underlying45 hi3 hy0 hy1 hy2 rfl (by decide) _ 0 [] rfl HRm.out a5 tl.length c3 (opsCells tl) rfl (opsCells_len tl) (fun j u hj => cell_past _ (opsS_news HOt.out j u hj)) (ones_ops _) (by unfold maxLen; omega) (by omega) (by simp) ?_)
      intro v4 w4 hown4 hgrow hnil
      try simp only [Nat.zero_add, List.nil_append] at hown4
      have HT4 := Lib.hid ((HTb.out.alloc (.cells #[] 51)).grown (HRm.out) (by omega) hgrow)
      have hb4 : Below wo.heap.size wo w4 := (HAt.out.alloc HAt.out.size (.cells #[] 51)).grown hgrow (by have := HAt.out.size; simp; omega) (fun k hk => by have := (HRm.out.lt k hk).1; omega)
      have HO4 := Lib.hid hown4
      obtain ⟨p5, c5, rfl⟩ := owns_form hown4
      have HB4 := Lib.hid hb4
      clear hown4 hgrow hnil hb4 z2 f2
      have z2 := HT4.out.cell 2 rfl
      have f2 := HT4.out.frozen 2
      go_wp2_with fail
      go_meet
      refine ⟨rfl, _, HT4.out.set 2 _, ?_, HB4.out.setCell (Nat.le_refl _) _⟩
      have h9 := owns_far (base := wt.heap.size) HO4.out (a := ⟨wo.heap.size, 2, none⟩) hwl (.slice p5 tl.length c5)
      rw [HWz.out] at h9
      exact h9
    case rest =>
     obtain ⟨rfl, v5, ht5, hr5, hb5⟩ := hcut
     obtain ⟨w5, rfl⟩ : ∃ q, q = wc := ⟨_, rfl⟩
     obtain ⟨p5, c5, rfl⟩ := owns_form hr5
     have HB5 := Lib.hid hb5
     have HT5 := Lib.hid ht5
     have HR5 := Lib.hid hr5
     have z0 := ht5.cell 0 rfl
     have z1 := ht5.cell 1 rfl
     have f1 := ht5.frozen 1
     have zl := ht5.lt
     have cC := HCc.out _ HB5.out
     clear hb5 hr5 ht5 a1 a2 a3 HTb HAt
     go_upto_if 44 with fail
     have HT6 : RowKit.Hid (Blk (w5.setCell ⟨wo.heap.size, 1, none⟩ (.int .i64 2)) wo.heap.size 47 [.int .i64 ts, .int .i64 2, (.slice p5 tl.length c5)]) := Lib.hid (HT5.out.set 1 (.int .i64 2))
     have HR6 : RowKit.Hid ((w5.setCell ⟨wo.heap.size, 1, none⟩ (.int .i64 2)).ownsRow (wo.heap.size + 1) 51 4 (.slice p5 tl.length c5) tl.length (opsCells tl)) := Lib.hid (owns_far HR5.out (by show wo.heap.size < wo.heap.size + 1; omega) _)
     have HB6 : RowKit.Hid (Below wo.heap.size wo (w5.setCell ⟨wo.heap.size, 1, none⟩ (.int .i64 2))) := Lib.hid (HB5.out.setCell (Nat.le_refl _) _)
     obtain ⟨w6, hw6⟩ : ∃ q, w5.setCell ⟨wo.heap.size, 1, none⟩ (.int .i64 2) = q := ⟨_, rfl⟩
     rw [hw6] at HT6 HR6 HB6 ⊢
     clear hw6 z0 z1 f1 zl
     clear HT5 HR5 HB5 cC
     go_cut [9] (fun s9 wx => s9 = .pointer (some ⟨wo.heap.size, 0, none⟩) ∧ Blk wx wo.heap.size 47 [.int .i64 ts, .int .i64 (if b then 1 else 2), (.slice p5 tl.length c5)] ∧ wx.ownsRow (wo.heap.size + 1) 51 4 (.slice p5 tl.length c5) tl.length (opsCells tl) ∧ Below wo.heap.size wo wx)
     case first =>
      have z1 := HT6.out.cell 1 rfl
      have f1 := HT6.out.frozen 1
      have zl := HT6.out.lt
      cases b with
      | true =>
       go_wp2_with fail
       go_meet
       exact ⟨rfl, HT6.out.set 1 (.int .i64 1), owns_far HR6.out (by show wo.heap.size < wo.heap.size + 1; omega) _, HB6.out.setCell (Nat.le_refl _) _⟩
      | false =>
       go_wp2_with fail
       go_meet
       exact ⟨rfl, HT6.out, HR6.out, HB6.out⟩
     case rest =>
      obtain ⟨rfl, ht7, hr7, hb7⟩ := hcut
      obtain ⟨w7, rfl⟩ : ∃ q, q = wc := ⟨_, rfl⟩
      obtain ⟨fa, hfa⟩ : ∃ q : Int, (if b then 1 else 2) = q := ⟨_, rfl⟩
      rw [hfa] at ht7 HNx
      obtain ⟨LF, hLF⟩ : ∃ q, m.2.drop (nLL h.2.2 k) = q := ⟨_, rfl⟩
      rw [hLF] at HNx
      have HLF := Lib.hid hLF
      have z2 := ht7.cell 2 rfl
      have HT7 := Lib.hid ht7
      have HR7 := Lib.hid hr7
      have HB7 := Lib.hid hb7
      clear hfa hLF ht7 hr7 hb7 HT6 HR6 HB6
      go_wp2_with fail
      skip
      clear z2
      go_loopw [7, 10] (fun l i wr => ∃ mm : Nat, mm ≤ tl.length ∧ i = .int .i64 mm ∧ l = .int .i64 (nLL h.2.2 k + nL tl mm : Nat) ∧ Blk wr wo.heap.size 47 [.int .i64 ts, .int .i64 fa, (.slice p5 tl.length c5)] ∧ wr.ownsRow (wo.heap.size + 1) 51 4 (.slice p5 tl.length c5) tl.length (opsCells (fillK tl LF mm)) ∧ Below wo.heap.size wo wr) (fun _ i _ => tl.length - (RowKit.intOf i).toNat)
      case atStart => exact ⟨0, Nat.zero_le _, rfl, HLe.out, HT7.out, by rw [fillK_zero]; exact HR7.out, HB7.out⟩
      case round =>
       obtain ⟨mm, hm, rfl, hleft, hq, hrow, hbw⟩ := hrel
       have z2 := hq.cell 2 rfl
       have zl := hq.lt
       by_cases hm1 : mm < tl.length
       ·obtain ⟨g5, rfl⟩ := owns_posp hrow (by omega)
        have hfl : mm < (fillK tl LF mm).length := by rw [fillK_len _ _ _ hm]; exact hm1
        have HCe := Lib.hid (fun w' (hb : Below wr.heap.size wr w') (i : Nat) (hi : i < 4) => ((owns_later hrow hb).cellAt (mm * 4 + i) (by omega)).trans (ops_cell hfl hi))
        have HCf := Lib.hid (fun w' (hb : Below wr.heap.size wr w') (i : Nat) => (owns_later hrow hb).frozenAt (mm * 4 + i))
        rw [fillK_at tl LF mm hm1] at HCe
        have hgq : wo.heap.size + 1 ≤ g5 := (hrow.lt g5 rfl).1
        have hgl : g5 < wr.heap.size := (hrow.lt g5 rfl).2
        have hnl := nL_next tl mm hm1
        have hn2 := nL_lt tl mm hm1
        have hfn := fillK_next tl LF mm hm1
        have hfs := fillK_same tl LF mm hm1
        have hfo : fillO tl LF mm = if lostO (tl.getD mm noOp) then ((tl.getD mm noOp).1, (tl.getD mm noOp).2.1, LF.getD (nL tl mm) noVal) else tl.getD mm noOp := rfl
        have hos := opsCells_set (LF.getD (nL tl mm) noVal).1 (LF.getD (nL tl mm) noVal).2 (fillK tl LF mm) mm hfl
        rw [fillK_at tl LF mm hm1] at hos
        obtain ⟨⟨ow, ok, od, on⟩, hoo⟩ : ∃ q, tl.getD mm noOp = q := ⟨_, rfl⟩
        rw [hoo] at HCe hnl hn2 hfs hfo hos
        dsimp only at hos
        have e0 := HCe.out wr (Below.refl _ _) 0 (by omega)
        have e1 := HCe.out wr (Below.refl _ _) 1 (by omega)
        have e2 := HCe.out wr (Below.refl _ _) 2 (by omega)
        have e3 := HCe.out wr (Below.refl _ _) 3 (by omega)
        simp only [opCells, List.getElem?_cons_zero, List.getElem?_cons_succ, Nat.add_zero] at e0 e1 e2 e3
        have HQ := Lib.hid hq
        have HRo := Lib.hid hrow
        have HBw := Lib.hid hbw
        have HNl := Lib.hid hnl
        have HN2 := Lib.hid hn2
        have HFn := Lib.hid hfn
        have HFs := Lib.hid hfs
        have HFo := Lib.hid hfo
        have HOs := Lib.hid hos
        have HLf := Lib.hid hleft
        clear hq hrow hbw hnl hn2 hfn hfs hfo hos hleft hoo hfl
        by_cases hod : od = 2
        ·have x2 := (SD.out.h.later HBw.out).cell 2 rfl
         clear x2
         have hodb : (od == 2) = true := by simpa using hod
         have hn3 : nL tl mm < (tl.filter lostO).length := HN2.out (by unfold lostO; simp [hod])
         have hn4 : nLL h.2.2 k + nL tl mm < m.2.length := by have := HL2.out; omega
         obtain ⟨gv, rfl, q0, q1⟩ := HVa.out _ hn4
         have HN3 : RowKit.Hid (nL tl (mm + 1) = nL tl mm + 1) := Lib.hid (by rw [HNl.out, show lostO (ow, ok, od, on) = true by unfold lostO; simp [hod]]; rfl)
         have hge : LF.getD (nL tl mm) noVal = m.2.getD (nLL h.2.2 k + nL tl mm) noVal := by rw [← HLF.out]; simp [List.getD_eq_getElem?_getD, List.getElem?_drop]
         have HF3 : RowKit.Hid (fillK tl LF (mm + 1) = (fillK tl LF mm).set mm (ow, ok, LF.getD (nL tl mm) noVal)) := Lib.hid (by rw [HFn.out, HFo.out, show lostO (ow, ok, od, on) = true by unfold lostO; simp [hod]]; rfl)
         obtain ⟨n, hn⟩ : ∃ n, nLL h.2.2 k + nL tl mm = n := ⟨_, rfl⟩
         rw [hn] at q0 q1 hge hn4 HLf
         rw [hge] at HOs HF3
         obtain ⟨⟨kd, nn⟩, hkn⟩ : ∃ q, m.2.getD n noVal = q := ⟨_, rfl⟩
         rw [hkn] at q0 q1 HOs HF3
         dsimp only at q0 q1 HOs
         have HNn := Lib.hid hn
         have HS : RowKit.Hid (∀ w', Below wr.heap.size wr w' → w'.cell? ⟨wo.heap.size, 2, none⟩ = some (.slice (some ⟨g5, 0, none⟩) tl.length c5) ∧ w'.cell? ⟨gv, n * 2, none⟩ = some (.int .i64 kd) ∧ w'.cell? ⟨gv, n * 2 + 1, none⟩ = some (.int .i64 nn) ∧ w'.cell? ⟨w.heap.size + 1, 1, none⟩ = some (.slice (some ⟨gv, 0, none⟩) m.2.length cv) ∧ Below wr.heap.size wr w') := Lib.hid (fun w' hb => ⟨(HQ.out.later (below_next (Below.refl _ _) hb)).cell 2 rfl, cell_later (below_next SD.out.b (below_next HBw.out (below_next (Below.refl _ _) hb))) q0, cell_later (below_next SD.out.b (below_next HBw.out (below_next (Below.refl _ _) hb))) q1, (SD.out.u.later (below_next HBw.out (below_next (Below.refl _ _) hb))).cell 1 rfl, hb⟩)
         clear hkn hge hn
         rw [HLf.out]
         go_upto_region 15 with fail
         refine wp_region_keep (fun w' => w'.cell? ⟨wo.heap.size, 2, none⟩ = some (.slice (some ⟨g5, 0, none⟩) tl.length c5) ∧ w'.cell? ⟨gv, n * 2, none⟩ = some (.int .i64 kd) ∧ w'.cell? ⟨gv, n * 2 + 1, none⟩ = some (.int .i64 nn) ∧ w'.cell? ⟨w.heap.size + 1, 1, none⟩ = some (.slice (some ⟨gv, 0, none⟩) m.2.length cv) ∧ Below wr.heap.size wr w') [10] (by kernel_rfl) ?_
         have hB0 : Below (wr).heap.size (wr) (wr).drew := Below.drew (Below.refl _ _)
         have hS0 := HS.out _ hB0
         refine wfr 0 (v := ?_) rfl ?_ ?_
         rotate_left
         ·intro w' hw';go_simp;try with_reducible rfl
         try simp only [Act.put, sq]
         refine wtk 1 11 (v := ?_) rfl ?_ hS0 ?_
         rotate_left
         ·intro w' hw';(try dsimp only at hw');go_simp;try with_reducible rfl
         try simp only [Act.put, sq]
         refine wfr 2 (v := ?_) rfl ?_ ?_
         rotate_left
         ·intro w' hw';go_simp;try with_reducible rfl
         try simp only [Act.put, sq]
         refine wfr 3 (v := ?_) rfl ?_ ?_
         rotate_left
         ·intro w' hw';go_simp;try with_reducible rfl
         try simp only [Act.put, sq]
         refine wtk 4 11 (v := ?_) rfl ?_ hS0 ?_
         rotate_left
         ·intro w' hw';(try dsimp only at hw');go_simp;try with_reducible rfl
         try simp only [Act.put, sq]
         refine won 5 rfl fun K hK => ?_
         go_simp
         refine hK.out _ _ (fun _ h => h) ?_
         clear hK K
         try simp only [Act.put, sq]
         refine won 6 rfl fun K hK => ?_
         go_simp
         refine hK.out _ _ (fun _ h => h) ?_
         clear hK K
         try simp only [Act.put, sq]
         refine won 7 rfl fun K hK => ?_
         go_simp
         refine hK.out _ _ (fun _ h => h) ?_
         clear hK K
         try simp only [Act.put, sq]
         refine won 8 rfl fun K hK => ?_
         go_simp
         refine hK.out _ _ (fun _ h => h) ?_
         clear hK K
         try simp only [Act.put, sq]
         refine won 9 rfl fun K hK => ?_
         go_simp
         refine hK.out _ _ (fun _ h => h) ?_
         clear hK K
         try simp only [Act.put, sq]
         have r2 := (HCe.out _ (Below.refl _ _) 2 (by omega))
         have r3' := (HCe.out _ (Below.refl _ _) 3 (by omega))
         simp only [opCells, List.getElem?_cons_zero, List.getElem?_cons_succ] at r2 r3'
         have r3 : wr.cell? ⟨g5, mm * 4 + 2 + 1, none⟩ = some (.int .i64 on) := r3'
         have t2 := HCf.out _ (Below.refl _ _) 2
         have t3 : wr.frozen? ⟨g5, mm * 4 + 2 + 1, none⟩ = false := HCf.out _ (Below.refl _ _) 3
         have tl9 : g5 < wr.heap.size := Nat.lt_of_lt_of_le hgl ((Below.refl wr.heap.size wr)).size
         clear r3'
         refine won 10 rfl fun K hK => ?_
         go_simp
         refine hK.out _ _ (fun h => absurd h (by decide)) ?_
         clear hK K
         try simp only [Act.put, sq]
         clear r2 r3 t2 t3 tl9
         refine wpAnyM_done (by kernel_rfl) ?_ _
         try simp only [Act.put, sq]
         have HQ9 := Lib.hid (((HQ.out.later (Below.refl wr.heap.size wr)).far (a := ⟨g5, mm * 4 + 2, none⟩) (by show wo.heap.size ≠ g5; omega) (.int .i64 kd)).far (a := ⟨g5, mm * 4 + 2 + 1, none⟩) (by show wo.heap.size ≠ g5; omega) (.int .i64 nn)).drew
         have h9 := ((((owns_later HRo.out (Below.refl wr.heap.size wr)).stored (mm * 4 + 2) (.int .i64 kd)).1).stored (mm * 4 + 2 + 1) (.int .i64 nn)).1.drew
         rw [HOs.out, ← HF3.out] at h9
         have HR9 := Lib.hid h9
         have HB9 := Lib.hid (Below.drew (((below_next HBw.out (Below.refl wr.heap.size wr)).setCell (p := ⟨g5, mm * 4 + 2, none⟩) (by show wo.heap.size ≤ g5; omega) (.int .i64 kd)).setCell (p := ⟨g5, mm * 4 + 2 + 1, none⟩) (by show wo.heap.size ≤ g5; omega) (.int .i64 nn)))
         clear h9
         clear hB0 hS0
         go_wp2_with fail
         go_roundw
         case rel => exact ⟨mm + 1, by omega, by go_num, by rw [HN3.out, ← Nat.add_assoc, HNn.out] <;> first | rfl | go_num, HQ9.out, HR9.out, HB9.out⟩
         case measure => simp [RowKit.intOf]; omega
        ·have hodb : (od == 2) = false := by simpa using hod
         have hlo : lostO (ow, ok, od, on) = false := by unfold lostO; simpa using hod
         have HN3 : RowKit.Hid (nL tl (mm + 1) = nL tl mm) := Lib.hid (by rw [HNl.out, hlo]; rfl)
         have HF3 := Lib.hid (HFs.out hlo)
         clear hlo HNl HFs HFn HFo HOs HN2
         go_wp2_with fail
         go_roundw
         case rel => exact ⟨mm + 1, by omega, by go_num, by rw [HN3.out]; exact HLf.out, HQ.out, by rw [HF3.out]; exact HRo.out, HBw.out⟩
         case measure => simp [RowKit.intOf]; omega
       ·have hke : mm = tl.length := by omega
        subst hke
        rw [fillK_all] at hrow
        have hwx := HWS.out
        obtain ⟨tq, htq⟩ : ∃ q, (fillG tl LF).1 = q := ⟨_, rfl⟩
        have htql : tq.length = tl.length := by rw [← htq]; exact fill_len tl LF
        rw [htq] at hrow HNx
        clear htq
        have HO8 : RowKit.Hid (wr.ownsRow N 51 4 (.slice p5 tl.length c5) tq.length (opsCells tq)) := Lib.hid (by rw [htql]; exact owns_base hrow (by omega))
        have n0 := hq.cell 0 rfl
        have n1 := hq.cell 1 rfl
        have o2 := (SD.out.g.later hbw).cell 2 rfl
        have hg3 : G < wr.heap.size := by have := hbw.size; omega
        have hsz3 := hbw.size
        have HBw := Lib.hid hbw
        have HLf := Lib.hid hleft
        have HL3 : RowKit.Hid (nLL h.2.2 (k + 1) = nLL h.2.2 k + nL tl tl.length) := Lib.hid (by rw [HL1.out, nL_all])
        clear hrow hbw hleft
        go_wp2_with (at_builtin; refine wpList_append_own _ rfl _ _ 23 rfl N 47 i4 (.agg #[.int .i64 0, .int .i64 0, .slice none 0 0]) 3 40 Tryz.underlying23 hi4 hw0 hw1' hw2' rfl (by decide) vt LV.length (txnsCells LV) rfl ((owns_later SD.out.t HBw.out).alloc _) ⟨wr.heap.size, 0, none⟩ 1 1 [.int .i64 ts, .int .i64 fa, (.slice p5 tl.length c5)] rfl rfl (news_lit _ _ _ _ (by simp)) (by intro u hu; simp at hu; rcases hu with rfl | rfl | rfl <;> rfl) (by have := HLl.out; unfold maxLen; omega) (by have := HLl.out; omega) (by simp; omega) ?_)
        intro v9 w9 hown6 hgrow6 hnil6
        rw [HLl.out] at hown6
        obtain ⟨g6, c6, rfl⟩ := owns_some hown6
        have st6 := mkT_next SD.out HBw.out HO8.out HLl.out hown6 hgrow6
        have o6 := (SD.out.g.later (HBw.out.alloc HBw.out.size (.cells #[.int .i64 ts, .int .i64 fa, (.slice p5 tl.length c5)] 47))).grown ((owns_later SD.out.t HBw.out).alloc _) hwx.2.1 hgrow6
        have q7 := o6.cell 2 rfl
        have q8 := o6.frozen 2
        have S6 := Lib.hid st6
        clear hown6 hgrow6 hnil6 st6 o6 o2 n0 n1 z2 hq
        go_wp2_with fail
        go_roundw
        case rel => exact ⟨k + 1, _, _, by omega, by go_num, by rw [HL3.out]; exact HLf.out, by rw [HNx.out, List.map_append, HLV.out]; rfl, S6.out⟩
        case measure => simp [RowKit.intOf]; omega
   ·have hke : k = h.2.2.length := by omega
    subst hke
    rw [make_all] at hLV
    have hen := mkT_end st hLV
    obtain ⟨ps, cs, rfl⟩ := owns_form st.s
    obtain ⟨pk, ck, rfl⟩ := owns_form st.k
    obtain ⟨pt, ct, rfl⟩ := owns_form st.t
    have e0 := st.g.cell 0 rfl
    have e1 := st.g.cell 1 rfl
    have e2 := st.g.cell 2 rfl
    have y0 := st.r.cell 0 rfl
    have y1 := st.r.cell 1 rfl
    have y2 := st.r.cell 2 rfl
    have g0 := st.r.frozen 0
    have g1 := st.r.frozen 1
    have g2 := st.r.frozen 2
    have gl := st.r.lt
    have HEn := Lib.hid hen
    clear hen st hLV hleft
    go_wp2_with fail
    rw [← HE2.out] at HEn
    refine bodyPost_ret (results_cell Tryz.results92 _ _ _ _ _ rfl (load_hist HEn.out.1)) rfl ?_
    exact ⟨_, rfl, HEn.out.2.1, HEn.out.2.2⟩
end Go.Proofs.YtmgchjddpmmglaaGreatDoor
