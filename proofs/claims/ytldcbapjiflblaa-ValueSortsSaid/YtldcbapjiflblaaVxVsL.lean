/-
  The law ValueSorts walked: values in order, and which one of any two is ahead, are as the document says. No conditions.
-/
import Derived.Test.YtldcbapjiflblaaVxVsR
import Derived.Test.YtldcbapjiflblaaVVf
namespace Go.Proofs.Ytldcbapjiflblaa
open Go.RowKit Go.Lib
set_option maxRecDepth 100000 in
set_option maxHeartbeats 4000000 in
theorem rvless_any (k n k' n' : Int) (w : World) : Calls Try.prog 8 #[.agg #[.int .i64 k, .int .i64 n], .agg #[.int .i64 k', .int .i64 n']] w fun e w' => e = .returned (.bool (lessOk (k, n) (k', n'))) ∧ Below w.heap.size w w' := by
 have HM1 := Lib.hid (refmay_any k n)
 have HM2 := Lib.hid (refmay_any k' n')
 have HL := Lib.hid (refless_any k n k' n')
 have HE : RowKit.Hid (lessOk (k, n) (k', n') = (mayV k n && mayV k' n' && lessV k n k' n')) := Lib.hid rfl
 rw [HE.out]
 have HAL := Lib.hid (((Below.refl w.heap.size w).alloc (Nat.le_refl _) (.cells #[.int .i64 k, .int .i64 n] 24)).alloc (by simp) (.cells #[.int .i64 k', .int .i64 n'] 24))
 have HBX := Lib.hid ((Blk.new w 24 [.int .i64 k, .int .i64 n]).alloc (.cells #[.int .i64 k', .int .i64 n'] 24))
 have hbu := Blk.new (w.alloc (.cells #[.int .i64 k, .int .i64 n] 24)) 24 [.int .i64 k', .int .i64 n']
 simp only [World.size_alloc] at hbu
 have HBU := Lib.hid hbu
 clear hbu HE
 generalize mayV k n = m1 at HM1 ⊢
 generalize mayV k' n' = m2 at HM2 ⊢
 generalize lessV k n k' n' = m3 at HL ⊢
 go_enter Try.func8, Try.ntmps8
 go_upto_region 1 with fail
 obtain ⟨W0, hW0⟩ : ∃ q, (w.alloc (.cells #[.int .i64 k, .int .i64 n] 24)).alloc (.cells #[.int .i64 k', .int .i64 n'] 24) = q := ⟨_, rfl⟩
 rw [hW0] at HAL HBX HBU ⊢
 clear hW0
 have x0 := HBX.out.cell 0 rfl
 have x1 := HBX.out.cell 1 rfl
 go_wp2_with fail
 refine (HM1.out _).mono ?_
 rintro e w1 ⟨rfl, hb1⟩
 have HB1 := Lib.hid (below_next HAL.out hb1)
 have HX1 := Lib.hid (HBX.out.later hb1)
 have HU1 := Lib.hid (HBU.out.later hb1)
 clear x0 x1 hb1
 cases m1 with
 | false =>
  go_wp2_with fail
  go_ret
  exact ⟨rfl, HB1.out⟩
 | true =>
  have y0 := HU1.out.cell 0 rfl
  have y1 := HU1.out.cell 1 rfl
  go_wp2_with fail
  refine (HM2.out _).mono ?_
  rintro e w2 ⟨rfl, hb2⟩
  have HB2 := Lib.hid (below_next HB1.out hb2)
  have HX2 := Lib.hid (HX1.out.later hb2)
  have HU2 := Lib.hid (HU1.out.later hb2)
  clear y0 y1 hb2
  cases m2 with
  | false =>
   go_wp2_with fail
   go_ret
   exact ⟨rfl, HB2.out⟩
  | true =>
   have x0 := HX2.out.cell 0 rfl
   have x1 := HX2.out.cell 1 rfl
   have y0 := HU2.out.cell 0 rfl
   have y1 := HU2.out.cell 1 rfl
   go_wp2_with fail
   refine (HL.out _).mono ?_
   rintro e w3 ⟨rfl, hb3⟩
   have HB3 := Lib.hid (below_next HB2.out hb3)
   clear x0 x1 y0 y1 hb3
   go_wp2_with fail
   go_ret
   exact ⟨by simp, HB3.out⟩
set_option maxRecDepth 100000 in
set_option maxHeartbeats 4000000 in
theorem rsamev_any (w : World) (p q : Option Addr) (c d : Nat) (L : List ValV) (h1 : HasVals w p L) (h2 : HasVals w q L) (hL : L.length ≤ 1000) : Calls Try.prog 4 #[.slice p L.length c, .slice q L.length d] w fun e w' => e = .returned (.bool true) ∧ Below w.heap.size w w' := by
 have H1 := Lib.hid h1
 have H2 := Lib.hid h2
 clear h1 h2
 go_enter Try.func4, Try.ntmps4
 go_wp2_with fail
 go_loopw [5] (fun i wr => ∃ k : Nat, k ≤ L.length ∧ i = .int .i64 k ∧ Below w.heap.size w wr) (fun i _ => L.length - (RowKit.intOf i).toNat)
 case atStart => exact ⟨0, Nat.zero_le _, rfl, Below.refl _ _⟩
 case round =>
  obtain ⟨i, hi, rfl, hbw⟩ := hrel
  by_cases hlt : i < L.length
  ·obtain ⟨gl, rfl, a0, a1⟩ := H1.out i hlt
   obtain ⟨gm, rfl, b0, b1⟩ := H2.out i hlt
   obtain ⟨⟨x1, x2⟩, hx⟩ : ∃ x, L.getD i noVal = x := ⟨_, rfl⟩
   rw [hx] at a0 a1 b0 b1
   dsimp only at a0 a1 b0 b1
   have HS : RowKit.Hid (∀ w', Below wr.heap.size wr w' → w'.cell? ⟨gl, i * 2, none⟩ = some (.int .i64 x1) ∧ w'.cell? ⟨gl, i * 2 + 1, none⟩ = some (.int .i64 x2) ∧ w'.cell? ⟨gm, i * 2, none⟩ = some (.int .i64 x1) ∧ w'.cell? ⟨gm, i * 2 + 1, none⟩ = some (.int .i64 x2) ∧ Below wr.heap.size wr w') := Lib.hid (fun w' hb => ⟨cell_later (below_next hbw hb) a0, cell_later (below_next hbw hb) a1, cell_later (below_next hbw hb) b0, cell_later (below_next hbw hb) b1, hb⟩)
   clear hx a0 a1 b0 b1
   go_wp2_with fail
   refine wpk HS [] (by kernel_rfl) fun hB0 hS0 => ?_
   refine wfr 0 (v := ?_) rfl ?_ ?_
   rotate_left
   ·intro w' hw';go_simp;try with_reducible rfl
   try simp only [Act.put, sq]
   refine wfr 1 (v := ?_) rfl ?_ ?_
   rotate_left
   ·intro w' hw';go_simp;try with_reducible rfl
   try simp only [Act.put, sq]
   refine wfr 2 (v := ?_) rfl ?_ ?_
   rotate_left
   ·intro w' hw';go_simp;try with_reducible rfl
   try simp only [Act.put, sq]
   refine wtk 3 9 (v := ?_) rfl ?_ hS0 ?_
   rotate_left
   ·intro w' hw';(try dsimp only at hw');go_simp;try with_reducible rfl
   try simp only [Act.put, sq]
   refine wfr 4 (v := ?_) rfl ?_ ?_
   rotate_left
   ·intro w' hw';go_simp;try with_reducible rfl
   try simp only [Act.put, sq]
   refine won 5 rfl fun K hK => ?_
   go_simp
   refine hK.out _ _ (fun _ h => h) ?_
   clear hK K
   try simp only [Act.put, sq]
   refine won 6 rfl fun K hK => ?_
   go_simp
   refine hK.out _ _ (fun _ h => h) ?_
   clear hK K
   try simp only [Act.put, sq]
   refine won 7 rfl fun K hK => ?_
   go_simp
   refine hK.out _ _ (fun _ h => h) ?_
   clear hK K
   try simp only [Act.put, sq]
   refine won 8 rfl fun K hK => ?_
   go_simp
   refine hK.out _ _ (fun _ h => h) ?_
   clear hK K
   try simp only [Act.put, sq]
   refine wpAnyM_done (by kernel_rfl) ?_ _
   try simp only [Act.put, sq]
   clear hS0 HS
   go_wp2_with fail
   go_roundw
   case rel => exact ⟨i + 1, by omega, by go_num, below_next hbw hB0⟩
   case measure => simp [RowKit.intOf]; omega
  ·have hke : i = L.length := by omega
   subst hke
   go_wp2_with fail
   go_ret
   exact ⟨rfl, hbw⟩
theorem run_append_nil (w : World) (base : Nat) (t ty e : TypeId) (i : TypeInfo) (size c : Nat) (ht : Try.prog.underlying t = some (.slice e)) (hi : Try.prog.info? e = some i) (v : Value) (n : Nat) (xs : List Value) (hown : w.ownsRow base e size v n xs) :
  (Builtin.append_ #[t, t] ty #[v, .slice none 0 c]).run Try.prog w = .ok v w := by
 rcases hown.2 with ⟨rfl, rfl⟩ | ⟨g, cap, cur, rfl, _, _, hnc, _⟩
 ·simp [Builtin.append_, run_underlying ht, sizeOf, typeInfo, hi, Builtin.lenOf, Builtin.firstCells]
 ·simp [Builtin.append_, run_underlying ht, sizeOf, typeInfo, hi, Builtin.lenOf, Builtin.firstCells, hnc, storeCells]
theorem own_valsN {w : World} {B n : Nat} {e : TypeId} {v : Value} {L : List ValV} (h : w.ownsRow B e 2 v n (valsC L)) (hn : n = L.length) (h0 : v ≠ .slice none 0 0) : ValsO w v L := by
 rcases h.2 with ⟨h1, -⟩ | ⟨g, cap, cur, rfl, -, hw, h1, h2, -⟩
 ·exact absurd h1 h0
 ·have h3 := h
  subst hn
  refine ⟨g, cap, rfl, ⟨h1, h2⟩, fun q u hq => ?_⟩
  have hl := (List.getElem?_eq_some_iff.1 hq).1
  rw [valsC_len] at hl
  rw [h3.cellAt q hl]
  exact hq
set_option maxRecDepth 100000 in
set_option maxHeartbeats 4000000 in
theorem valuesorts_any (w : World) (v : Value) (L : List ValV) (x1 y1 x2 y2 : Int) (hv : ValsA w v L) : Calls Try.prog 3 #[v, .agg #[.int .i64 x1, .int .i64 y1], .agg #[.int .i64 x2, .int .i64 y2]] w fun e w' => e = .returned (.bool true) ∧ Below w.heap.size w w' := by
 obtain ⟨p, n, c, rfl⟩ : ∃ p n c, v = .slice p n c := by
  obtain ⟨p, c, e, -⟩ := hv
  exact ⟨p, _, c, e⟩
 obtain ⟨hn, hc1, hc2, hpn⟩ := valsA_len hv
 subst hn
 unfold maxLen at hc2
 obtain ⟨i1, hj, hj0, hj1, hj2⟩ := info_parts info_val
 have HV := Lib.hid hv
 have HPn := Lib.hid hpn
 have HL1 := Lib.hid (vless_grown x1 y1 x2 y2)
 have HL2 := Lib.hid (rvless_any x1 y1 x2 y2)
 generalize lessOk (x1, y1) (x2, y2) = b at HL1 HL2
 have HAL := Lib.hid (((Below.refl w.heap.size w).alloc (Nat.le_refl _) (.cells #[.int .i64 x1, .int .i64 y1] 24)).alloc (by simp) (.cells #[.int .i64 x2, .int .i64 y2] 24))
 have HBX := Lib.hid ((Blk.new w 24 [.int .i64 x1, .int .i64 y1]).alloc (.cells #[.int .i64 x2, .int .i64 y2] 24))
 have hbu := Blk.new (w.alloc (.cells #[.int .i64 x1, .int .i64 y1] 24)) 24 [.int .i64 x2, .int .i64 y2]
 simp only [World.size_alloc] at hbu
 have HBU := Lib.hid hbu
 clear hbu hv hpn
 obtain ⟨T, hT⟩ : ∃ T, L.take 50 = T := ⟨_, rfl⟩
 have hTl : T.length ≤ 50 := by rw [← hT, List.length_take]; omega
 go_enter Try.func3, Try.ntmps3
 go_upto_region 1 with fail
 obtain ⟨W1, hW1⟩ : ∃ q, (w.alloc (.cells #[.int .i64 x1, .int .i64 y1] 24)).alloc (.cells #[.int .i64 x2, .int .i64 y2] 24) = q := ⟨_, rfl⟩
 rw [hW1] at HAL HBX HBU ⊢
 clear hW1
 obtain ⟨ga, hga⟩ : ∃ q, w.heap.size = q := ⟨_, rfl⟩
 have HGa := Lib.hid hga
 rw [hga] at HBX HBU ⊢
 obtain ⟨gb, hgb⟩ : ∃ q, ga + 1 = q := ⟨_, rfl⟩
 rw [hgb] at HBU ⊢
 clear hga hgb
 go_cut [0] (fun s0 wx => ValsO wx s0 T ∧ Below W1.heap.size W1 wx)
 case first =>
  have HA1 := Lib.hid ((Below.refl W1.heap.size W1).alloc (Nat.le_refl _) (.cells #[] 24))
  have hr0 : (W1.alloc (.cells #[] 24)).ownsRow W1.heap.size 24 2 (.slice (some ⟨W1.heap.size, 0, none⟩) 0 0) 0 [] := World.ownsRow_made (base := W1.heap.size) (size := 2) (e := 24) W1 #[] 0 (Nat.le_refl _) (Nat.zero_le _) rfl
  have HR0 := Lib.hid hr0
  clear hr0
  cases p with
  | none =>
   have hL0 := HPn.out rfl
   subst hL0
   have hT0 : T = [] := by rw [← hT]; rfl
   clear hT HPn HV
   go_wp2_with (at_builtin; refine wpList_append_own_none rfl _ _ 22 rfl W1.heap.size 24 i1 2 Try.underlying22 hj _ _ _ rfl HR0.out rfl ?_)
   go_wp2_with fail
   go_meet
   exact ⟨by rw [hT0]; exact own_valsN HR0.out rfl (by simp), HA1.out⟩
  | some a =>
   have HNw := Lib.hid (fun q u hq => cell_later (below_next HAL.out HA1.out) (vals_news HV.out 50 q u hq))
   by_cases h50 : L.length ≤ 50
   ·have hTL : T = L := by rw [← hT]; exact List.take_of_length_le h50
    have hmin : min (L.length : Int) 50 = (L.length : Int) := by omega
    clear HV HPn
    go_wp2_with (at_builtin; refine wpList_append_own _ rfl _ _ 22 rfl W1.heap.size 24 i1 (.agg #[.int .i64 0, .int .i64 0]) 2 16 Try.underlying22 hj hj0 hj1 hj2 rfl (by decide) _ _ _ rfl HR0.out a L.length c (valsC (L.take 50)) rfl (by rw [valsC_len, hT, hTL]) HNw.out (ones_vals _) (by unfold maxLen; omega) (by omega) HA1.out.size ?_)
    intro v' w4 hown hgr hnil
    have HBf := Lib.hid (HA1.out.grown hgr HA1.out.size (fun k hk => (HR0.out.lt k hk).1))
    rw [← hTL] at hown
    have HO := Lib.hid (own_valsN hown rfl hnil)
    obtain ⟨pv, cv, rfl⟩ := owns_form hown
    clear hT hTL hown hgr hnil HNw
    go_wp2_with fail
    go_meet
    exact ⟨HO.out, HBf.out⟩
   ·have hTL : T.length = 50 := by rw [← hT, List.length_take]; omega
    have hmin : min (L.length : Int) 50 = 50 := by omega
    clear HV HPn
    go_wp2_with (at_builtin; refine wpList_append_own _ rfl _ _ 22 rfl W1.heap.size 24 i1 (.agg #[.int .i64 0, .int .i64 0]) 2 16 Try.underlying22 hj hj0 hj1 hj2 rfl (by decide) _ _ _ rfl HR0.out a 50 c (valsC (L.take 50)) rfl (by rw [valsC_len, hT, hTL]) HNw.out (ones_vals _) (by unfold maxLen; omega) (by omega) HA1.out.size ?_)
    intro v' w4 hown hgr hnil
    have HBf := Lib.hid (HA1.out.grown hgr HA1.out.size (fun k hk => (HR0.out.lt k hk).1))
    have HO := Lib.hid (own_valsN hown hTL.symm hnil)
    obtain ⟨pv, cv, rfl⟩ := owns_form hown
    clear hT hTL hown hgr hnil HNw
    go_wp2_with fail
    go_meet
    exact ⟨HO.out, HBf.out⟩
 case rest =>
  obtain ⟨⟨gs, cs, rfl, ⟨hcs1, hcs2⟩, hsr⟩, hb1⟩ := hcut
  unfold maxLen at hcs2
  obtain ⟨WB, rfl⟩ : ∃ q, q = wc := ⟨_, rfl⟩
  have HSr := Lib.hid hsr
  have HSv : RowKit.Hid (∀ w', Below WB.heap.size WB w' → HasVals w' (some ⟨gs, 0, none⟩) T) := Lib.hid (fun w' hb j hj => ⟨gs, rfl, valsO_at (fun q u hq => cell_later hb (HSr.out q u hq)) j hj⟩)
  have HWB := Lib.hid (below_next HAL.out hb1)
  have HXb := Lib.hid (HBX.out.later hb1)
  have HUb := Lib.hid (HBU.out.later hb1)
  have HS : RowKit.Hid (∀ w', Below WB.heap.size WB w' → w'.cell? ⟨ga, 0, none⟩ = some (.int .i64 x1) ∧ w'.cell? ⟨ga, 1, none⟩ = some (.int .i64 y1) ∧ w'.cell? ⟨gb, 0, none⟩ = some (.int .i64 x2) ∧ w'.cell? ⟨gb, 1, none⟩ = some (.int .i64 y2) ∧ Below WB.heap.size WB w') := Lib.hid (fun w' hb => ⟨(HXb.out.later hb).cell 0 rfl, (HXb.out.later hb).cell 1 rfl, (HUb.out.later hb).cell 0 rfl, (HUb.out.later hb).cell 1 rfl, hb⟩)
  clear hsr hb1 HBX HBU HAL HV HPn hT
  go_wp2_with fail
  refine wp_region_keep (fun w' => w'.cell? ⟨ga, 0, none⟩ = some (.int .i64 x1) ∧ w'.cell? ⟨ga, 1, none⟩ = some (.int .i64 y1) ∧ w'.cell? ⟨gb, 0, none⟩ = some (.int .i64 x2) ∧ w'.cell? ⟨gb, 1, none⟩ = some (.int .i64 y2) ∧ Below WB.heap.size WB w') [] (by kernel_rfl) ?_
  have hB0 : Below (WB).heap.size (WB) (WB).drew := Below.drew (Below.refl _ _)
  obtain ⟨wd, hwd⟩ : ∃ q, (WB).drew = q := ⟨_, rfl⟩
  rw [hwd] at hB0 ⊢
  clear hwd
  refine wfr 1 (v := ?_) rfl ?_ ?_
  rotate_left
  ·intro w' hw';go_simp;try with_reducible rfl
  try simp only [Act.put, sq]
  refine wfr 4 (v := ?_) rfl ?_ ?_
  rotate_left
  ·intro w' hw';go_simp;try with_reducible rfl
  try simp only [Act.put, sq]
  refine won 0 rfl fun K hK => ?_
  go_simp
  have hA1 := hB0.alloc hB0.size (.cells #[] 24)
  have RA := Lib.hid (World.ownsRow_made (base := WB.heap.size) (size := 2) (e := 24) wd #[] 0 hB0.size (Nat.zero_le _) rfl)
  refine hK.out _ _ (fun _ _ => HS.out _ hA1) ?_
  clear hK K
  try simp only [Act.put, sq]
  obtain ⟨wa1, hwa1⟩ : ∃ q, wd.alloc (.cells #[] 24) = q := ⟨_, rfl⟩
  obtain ⟨gb1, hgb1⟩ : ∃ q, wd.heap.size = q := ⟨_, rfl⟩
  have hlt1 : WB.heap.size ≤ gb1 := by rw [← hgb1]; exact hB0.size
  simp only [hwa1, hgb1] at hA1 RA ⊢
  clear hwa1 hgb1
  refine won 2 rfl fun K hK => ?_
  refine step_append_own_at (by rfl) _ _ 22 (by rfl) WB.heap.size 24 i1 (.agg #[.int .i64 0, .int .i64 0]) 2 16 Try.underlying22 hj hj0 hj1 hj2 rfl (by decide) (.slice (some ⟨gb1, 0, none⟩) 0 0) 0 [] (by rfl) RA.out ⟨gs, 0, none⟩ T.length cs (valsC T) (by rfl) (valsC_len _) (fun q u hq => by rw [Addr.add_lit, Nat.zero_add]; exact cell_later hA1 (HSr.out q u hq)) (ones_vals _) (by unfold maxLen; omega) (by omega) hA1.size ?_
  intro v2 wa2 hown2 hg2 hat2
  rw [Nat.zero_add, List.nil_append] at hown2
  have hA2 : Below WB.heap.size WB wa2 := hA1.grown hg2 hA1.size (fun k hk => (RA.out.lt k hk).1)
  obtain ⟨pc, cc, rfl, -, hvc⟩ := own_vals hown2 rfl
  have HVc := Lib.hid hvc
  clear hown2 hg2 hat2 RA hvc
  refine hK.out _ _ (fun _ _ => HS.out _ hA2) ?_
  clear hK K
  try simp only [Act.put, sq]
  refine won 3 rfl fun K hK => ?_
  go_simp
  refine (vsorted_any _ _ _ T HVc.out (by omega)).mono ?_
  rintro e wb3 ⟨vs, rfl, hs, hc3⟩
  obtain ⟨ps, cs2, rfl, -, hvs⟩ := own_vals hs rfl
  have HVs := Lib.hid hvs
  clear hs hvs HVc
  have hB3 := below_next hA2 hc3
  refine hK.out _ _ (fun _ _ => HS.out _ hB3) ?_
  clear hK K hc3
  try simp only [Act.put, sq]
  refine won 5 rfl fun K hK => ?_
  go_simp
  refine (rvsorted_any _ _ _ T (HSv.out _ hB3) (by omega)).mono ?_
  rintro e wb4 ⟨vr, rfl, hr, hc4⟩
  obtain ⟨gr, cr, rfl, -, hhr⟩ := hr
  have HVr : RowKit.Hid (HasVals wb4 (some ⟨gr, 0, none⟩) (sortedV T)) := Lib.hid (fun j hj => ⟨gr, rfl, valsO_at hhr j hj⟩)
  clear hhr
  have hB4 := below_next hB3 hc4
  replace HVs := Lib.hid (HVs.out.below hc4)
  refine hK.out _ _ (fun _ _ => HS.out _ hB4) ?_
  clear hK K hc4
  try simp only [Act.put, sq]
  refine won 6 rfl fun K hK => ?_
  go_simp
  refine (rsamev_any _ _ _ _ _ (sortedV T) HVs.out HVr.out (by have := sortedV_len T; omega)).mono ?_
  rintro e wb5 ⟨rfl, hc5⟩
  have hB5 := below_next hB4 hc5
  replace HVs := Lib.hid (HVs.out.below hc5)
  replace HVr := Lib.hid (HVr.out.below hc5)
  refine hK.out _ _ (fun _ _ => HS.out _ hB5) ?_
  clear hK K hc5
  try simp only [Act.put, sq]
  refine won 7 rfl fun K hK => ?_
  go_simp
  refine hK.out _ _ (fun _ h => h) ?_
  clear hK K
  try simp only [Act.put, sq]
  refine wtk 8 20 (v := ?_) rfl ?_ (HS.out _ hB5) ?_
  rotate_left
  ·intro w' hw';(try dsimp only at hw');go_simp;try with_reducible rfl
  try simp only [Act.put, sq]
  refine wtk 9 20 (v := ?_) rfl ?_ (HS.out _ hB5) ?_
  rotate_left
  ·intro w' hw';(try dsimp only at hw');go_simp;try with_reducible rfl
  try simp only [Act.put, sq]
  refine wtk 11 20 (v := ?_) rfl ?_ (HS.out _ hB5) ?_
  rotate_left
  ·intro w' hw';(try dsimp only at hw');go_simp;try with_reducible rfl
  try simp only [Act.put, sq]
  refine wtk 12 20 (v := ?_) rfl ?_ (HS.out _ hB5) ?_
  rotate_left
  ·intro w' hw';(try dsimp only at hw');go_simp;try with_reducible rfl
  try simp only [Act.put, sq]
  refine won 10 rfl fun K hK => ?_
  go_simp
  refine (HL1.out _).mono ?_
  rintro e wb6 ⟨rfl, hc6, -⟩
  have hB6 := below_next hB5 hc6
  replace HVs := Lib.hid (HVs.out.below hc6)
  replace HVr := Lib.hid (HVr.out.below hc6)
  refine hK.out _ _ (fun _ _ => HS.out _ hB6) ?_
  clear hK K hc6
  try simp only [Act.put, sq]
  refine won 13 rfl fun K hK => ?_
  go_simp
  refine (HL2.out _).mono ?_
  rintro e wb7 ⟨rfl, hc7⟩
  have hB7 := below_next hB6 hc7
  replace HVs := Lib.hid (HVs.out.below hc7)
  replace HVr := Lib.hid (HVr.out.below hc7)
  refine hK.out _ _ (fun _ _ => HS.out _ hB7) ?_
  clear hK K hc7
  try simp only [Act.put, sq]
  refine won 14 rfl fun K hK => ?_
  go_simp
  refine hK.out _ _ (fun _ h => h) ?_
  clear hK K
  try simp only [Act.put, sq]
  refine won 15 rfl fun K hK => ?_
  go_simp
  refine hK.out _ _ (fun _ h => h) ?_
  clear hK K
  try simp only [Act.put, sq]
  refine won 16 rfl fun K hK => ?_
  go_simp
  refine hK.out _ _ (fun _ h => h) ?_
  clear hK K
  try simp only [Act.put, sq]
  refine won 17 rfl fun K hK => ?_
  go_simp
  refine (works5 _).mono ?_
  rintro e wb8 ⟨rfl, hc8⟩
  have hB8 := below_next hB7 hc8
  replace HVs := Lib.hid (HVs.out.below hc8)
  replace HVr := Lib.hid (HVr.out.below hc8)
  refine hK.out _ _ (fun _ _ => HS.out _ hB8) ?_
  clear hK K hc8
  try simp only [Act.put, sq]
  refine won 18 rfl fun K hK => ?_
  go_simp
  refine hK.out _ _ (fun _ h => h) ?_
  clear hK K
  try simp only [Act.put, sq]
  refine won 19 rfl fun K hK => ?_
  go_simp
  refine hK.out _ _ (fun _ h => h) ?_
  clear hK K
  try simp only [Act.put, sq]
  refine wpAnyM_done (by kernel_rfl) ?_ _
  try simp only [Act.put, sq]
  go_wp2_with fail
  go_ret
  exact ⟨rfl, below_next HWB.out hB8⟩
end Go.Proofs.Ytldcbapjiflblaa
