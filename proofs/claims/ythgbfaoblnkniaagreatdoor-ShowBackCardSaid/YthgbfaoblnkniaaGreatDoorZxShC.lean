/-
  Layer 12 (show), the document's answer: a history's events, walked. No conditions but a history of moderate size.
-/
import Derived.Test.YthgbfaoblnkniaaGreatDoorZxShB
import Derived.Test.YthgbfaoblnkniaaGreatDoorZs
namespace Go.Proofs.YthgbfaoblnkniaaGreatDoor
open Go.RowKit Go.Lib
theorem results12 : True := trivial
def linedK (A : List EventM) (i : Nat) : List EventM := lined (A.take i) 0 ++ A.drop i
theorem linedK_none (A : List EventM) : linedK A 0 = A := by simp [linedK, lined]
theorem linedK_all (A : List EventM) : linedK A A.length = lined A 0 := by simp [linedK]
theorem linedK_len (A : List EventM) (i : Nat) : (linedK A i).length = A.length := by
 unfold linedK
 rw [List.length_append, sh_lined_len, List.length_take, List.length_drop]
 omega
theorem linedK_next (A : List EventM) (i : Nat) (hi : i < A.length) : ((evcs (linedK A i)).set (i * 6 + 5) (.int .i64 ((i : Int) + 1))) = evcs (linedK A (i + 1)) := by
 have e1 : linedK A i = lined (A.take i) 0 ++ A[i] :: A.drop (i + 1) := by
  unfold linedK
  rw [List.drop_eq_getElem_cons hi]
 have e2 : linedK A (i + 1) = lined (A.take i) 0 ++ onLine A[i] ((i : Int) + 1) :: A.drop (i + 1) := by
  unfold linedK
  rw [List.take_succ_eq_append_getElem hi, lined_end, List.append_assoc]
  have : (A.take i).length = i := by simp; omega
  rw [this]
  push_cast
  rfl
 have h := flat_set evc 6 (fun _ => rfl) (lined (A.take i) 0) (A.drop (i + 1)) A[i] (onLine A[i] ((i : Int) + 1)) 5 (.int .i64 ((i : Int) + 1)) (by decide) rfl
 have hl : (lined (A.take i) 0).length = i := by rw [sh_lined_len]; simp; omega
 rw [hl, ← e1, ← e2] at h
 exact h
theorem linedK_cell (A : List EventM) (i : Nat) (hi : i < A.length) : (linedK A i).getD i noEv = A.getD i noEv := by
 have hl : (lined (A.take i) 0).length = i := by rw [sh_lined_len]; simp; omega
 unfold linedK
 rw [List.getD_eq_getElem?_getD, List.getElem?_append_right (by omega), hl, Nat.sub_self, List.drop_eq_getElem_cons hi]
 simp [hi]
structure EvRt (w wr : World) (v0 v1 v2 : Value) (b1 : Nat) (vl : Value) (A : List EventM) : Prop where
 hb : Blk wr b1 25 [v0, v1, v2]
 row : wr.ownsRow w.heap.size 47 6 vl A.length (evcs A)
 bel : Below w.heap.size w wr
theorem EvRt.below {w wr w' : World} {v0 v1 v2 : Value} {b1 : Nat} {vl : Value} {A : List EventM} (h : EvRt w wr v0 v1 v2 b1 vl A) (hb : Below wr.heap.size wr w') : EvRt w w' v0 v1 v2 b1 vl A :=
 ⟨h.hb.later hb, owns_later h.row hb, below_next h.bel hb⟩
theorem EvRt.more {w wr wa w4 : World} {v0 v1 v2 vl v4 : Value} {b1 : Nat} {A : List EventM} {x : EventM} {cs : List Value} (h : EvRt w wr v0 v1 v2 b1 vl A) (hb : Below wr.heap.size wr wa) (hown : w4.ownsRow w.heap.size 47 6 v4 (A.length + 1) (evcs A ++ cs)) (he : cs = evc x) (hg : wa.grownBy w4 vl.ownBlock) :
  EvRt w w4 v0 v1 v2 b1 v4 (A ++ [x]) ∧ ∀ k t cs, Blk wr k t cs → t ≠ 47 → Blk w4 k t cs := by
 have hs := h.below hb
 have keep : ∀ k t cs, Blk wr k t cs → t ≠ 47 → Blk w4 k t cs := fun k t cs hk ht => (hk.later hb).kept hg (fun e => ((hk.later hb).ty.ne (owns_ty hs.row e.symm) ht) rfl)
 refine ⟨⟨keep _ _ _ h.hb (by decide), ?_, hs.bel.grown hg hs.bel.size (fun k hk => (hs.row.lt k hk).1)⟩, keep⟩
 rw [List.length_append, List.length_singleton, ← evcs_snoc, ← he]
 exact hown
set_option maxRecDepth 100000 in
set_option maxHeartbeats 4000000 in
theorem revents12_any {w : World} {v : Value} {h : HistM} (hv : HistV w v h) (hm : Modst h) :
  Calls Tryz.prog 8 #[v] w fun e w' => ∃ v', e = .returned (.tuple #[v', .int .i64 (eventsP h).2]) ∧ EvsS w' v' (eventsP h).1 ∧ Below w.heap.size w w' := by
 obtain ⟨v0, v1, v2, rfl, h0, h1, h2⟩ := hv
 have T0 := Lib.hid h0
 have T1 := Lib.hid h1
 have T2 := Lib.hid h2
 obtain ⟨p0, c0, rfl, -⟩ := h0
 obtain ⟨p1, c1, rfl, -⟩ := h1
 obtain ⟨p2, c2, rfl, -⟩ := h2
 have hal := (Below.refl w.heap.size w).alloc (Nat.le_refl _) (.cells #[.slice p0 h.1.length c0, .slice p1 h.2.1.length c1, .slice p2 h.2.2.length c2] 25)
 have HMay := Lib.hid (rmay_v (w := w.alloc (.cells #[.slice p0 h.1.length c0, .slice p1 h.2.1.length c1, .slice p2 h.2.2.length c2] 25)) ⟨_, _, _, rfl, T0.out.below hal, T1.out.below hal, T2.out.below hal⟩ hm)
 have HBx := Lib.hid (Blk.new w 25 [.slice p0 h.1.length c0, .slice p1 h.2.1.length c1, .slice p2 h.2.2.length c2])
 have HAL := Lib.hid hal
 obtain ⟨i0, hi, hz0, hz1, hz2⟩ := info_parts info_ev
 clear hal hm
 go_enter Tryz.func8, Tryz.ntmps8
 go_wp2_with fail
 refine HMay.out.mono ?_
 rintro e w1 ⟨rfl, hb1⟩
 clear HMay
 have HB1 := Lib.hid (below_next HAL.out hb1)
 have HX1 := Lib.hid (HBx.out.later hb1)
 clear hb1 HAL HBx
 cases hmm : mayH h with
 | false =>
  have HE : RowKit.Hid (eventsP h = ([], 4)) := Lib.hid (by unfold eventsP; rw [hmm]; rfl)
  rw [err_no hmm]
  clear hmm
  go_wp2_with fail
  go_ret2
  rw [HE.out]
  exact ⟨_, rfl, evs_none _, HB1.out⟩
 | true =>
  have HE : RowKit.Hid (eventsP h = (showE h, 0)) := Lib.hid (by unfold eventsP; rw [hmm]; rfl)
  rw [err_yes hmm]
  have HMM := Lib.hid ((mayH_iff h).1 hmm)
  clear hmm
  have hbw1 := HB1.out.size
  have o2 := HX1.out.cell 2 rfl
  have olt := HX1.out.lt
  go_wp2_with fail
  clear o2 olt
  have hst0 : EvRt w (w1.alloc (.cells #[] 47)) (.slice p0 h.1.length c0) (.slice p1 h.2.1.length c1) (.slice p2 h.2.2.length c2) w.heap.size (.slice (some ⟨w1.heap.size, 0, none⟩) 0 0) (rawK h 0) :=
   ⟨HX1.out.alloc _, World.ownsRow_lit (base := w.heap.size) (e := 47) (size := 6) w1 #[] 0 HB1.out.size (by decide) rfl, HB1.out.alloc HB1.out.size _⟩
  have HS0 := Lib.hid hst0
  have q2 := hst0.hb.cell 2 rfl
  obtain ⟨w2, hw2⟩ : ∃ q, w1.alloc (.cells #[] 47) = q := ⟨_, rfl⟩
  rw [hw2] at HS0 q2
  try simp only [hw2]
  clear hst0 hw2
  have hn2 := HMM.out.n2
  go_loopw [5, 6] (fun vl i wr => ∃ k : Nat, k ≤ h.2.2.length ∧ i = .int .i64 k ∧ EvRt w wr (.slice p0 h.1.length c0) (.slice p1 h.2.1.length c1) (.slice p2 h.2.2.length c2) w.heap.size vl (rawK h k)) (fun _ i _ => h.2.2.length - (RowKit.intOf i).toNat)
  case atStart => exact ⟨0, Nat.zero_le _, rfl, HS0.out⟩
  case round =>
   obtain ⟨k, hk, rfl, hst⟩ := hrel
   have q2 := hst.hb.cell 2 rfl
   by_cases hk1 : k < h.2.2.length
   ·obtain ⟨p9, c9, e9, hc9⟩ := T2.out
    injection e9 with e9 _ e9c
    subst e9 e9c
    obtain ⟨g, sv, rfl, a1, a2, a3, hops⟩ := hc9 k hk1
    have a1 := cell_later hst.bel a1
    have a2 := cell_later hst.bel a2
    have a3 := cell_later hst.bel a3
    have ht : h.2.2.getD k noTxn ∈ h.2.2 := by rw [show h.2.2.getD k noTxn = h.2.2[k] by simp [hk1]]; exact List.getElem_mem hk1
    obtain ⟨s0, s1, f1, f3, fl⟩ := HMM.out.ses ht
    have HOpOf := Lib.hid (fun o (ho : o ∈ (h.2.2.getD k noTxn).2.2) => HMM.out.opOf ht ho)
    have HNx := Lib.hid (rawK_next h k hk1)
    have HAll := Lib.hid (opsK_all h (h.2.2.getD k noTxn))
    obtain ⟨⟨ts, tf, tl⟩, htt⟩ : ∃ t, h.2.2.getD k noTxn = t := ⟨_, rfl⟩
    rw [htt] at a1 a2 hops s0 s1 f1 f3 fl HOpOf HNx HAll
    dsimp only at a1 a2 a3 hops s0 s1 f1 f3 fl HOpOf HNx HAll
    obtain ⟨sn, rfl⟩ : ∃ sn : Nat, ts = (sn : Int) := ⟨ts.toNat, by omega⟩
    have hsl : sn < h.1.length := by omega
    obtain ⟨p8, c8, e8, hc8⟩ := T0.out
    injection e8 with e8 _ e8c
    subst e8 e8c
    obtain ⟨gs, rfl, b0⟩ := hc8 sn hsl
    have b0 := cell_later hst.bel b0
    rw [Int.toNat_natCast] at HAll
    obtain ⟨s, hs⟩ : ∃ s, h.1.getD sn [] = s := ⟨_, rfl⟩
    rw [hs] at b0 HAll
    have q0 := hst.hb.cell 0 rfl
    have qlt := hst.hb.lt
    have blt := World.block_lt_of_cell? wr _ b0
    obtain ⟨po, co, rfl, hoc⟩ := hops
    have hal0 := (Below.refl wr.heap.size wr).alloc (Nat.le_refl _) (.cells #[.int .i64 (sn : Int), .int .i64 tf, .slice po tl.length co] 43)
    have q0a := cell_later hal0 q0
    have b0a := cell_later hal0 b0
    clear hal0
    have HOc := Lib.hid hoc
    have HST := Lib.hid hst
    have hrl := rawK_len HMM.out k
    have hbs := hst.bel.size
    obtain ⟨pv, cv, rfl⟩ := owns_form hst.row
    obtain ⟨M, hM⟩ : ∃ M, rawK h k = M := ⟨_, rfl⟩
    rw [hM] at HST HNx hrl
    try simp only [hM]
    have HTb := Lib.hid (Blk.new wr 43 [.int .i64 (sn : Int), .int .i64 tf, .slice po tl.length co])
    have hal := (Below.refl wr.heap.size wr).alloc (Nat.le_refl _) (.cells #[.int .i64 (sn : Int), .int .i64 tf, .slice po tl.length co] 43)
    have HS1 := Lib.hid (HST.out.below hal)
    have HOpK := Lib.hid (fun o (ho : o ∈ tl) => HOpOf.out o ho)
    clear hst ht hoc hs HOpOf hM
    go_wp2_with (at_builtin; refine wpList_append_own _ rfl (.tmp 37) (.tmp 40) 27 rfl w.heap.size 47 i0 (.agg #[.int .i64 0, .string ByteArray.empty, .string ByteArray.empty, .int .i64 0, .int .i64 0, .int .i64 0]) 6 64 Tryz.underlying27 hi hz0 hz1 hz2 rfl (by decide) _ M.length (evcs M) rfl ((HST.out.row.alloc _).alloc _) ⟨wr.heap.size + 1, 0, none⟩ 1 1 [.int .i64 1, .string (bs s), .string (bs []), .int .i64 0, .int .i64 0, .int .i64 0] rfl rfl (news_lit _ _ _ _ (by simp)) (ones_ev _ _ _ _ _ _) (by unfold maxLen; omega) (by omega) (by simp; omega) ?_)
    intro v4 w4 hown4 hgrow hnil
    obtain ⟨hs4, hk4⟩ := HS1.out.more (x := begEv s) ((Below.refl _ _).alloc (Nat.le_refl _) _) hown4 rfl hgrow
    have HT4 := Lib.hid (hk4 _ _ _ HTb.out (by decide))
    have HS4 := Lib.hid hs4
    obtain ⟨p4, c4, rfl⟩ := owns_form hs4.row
    obtain ⟨n4, hn4⟩ : ∃ q, (M ++ [begEv s]).length = q := ⟨_, rfl⟩
    rw [hn4] at HS4
    try simp only [hn4]
    clear hn4
    obtain ⟨gt, hgt⟩ : ∃ q, wr.heap.size = q := ⟨_, rfl⟩
    rw [hgt] at HT4
    try simp only [hgt]
    clear hown4 hgrow hnil hs4 hk4 HS1 HTb a1 a2 a3 b0 q0 q2 qlt blt q0a b0a
    go_wp2_with fail
    go_loopw [5, 9] (fun vl i wq => ∃ j : Nat, j ≤ tl.length ∧ i = .int .i64 j ∧ EvRt w wq (.slice (some ⟨gs, 0, none⟩) h.1.length c0) (.slice p1 h.2.1.length c1) (.slice (some ⟨g, 0, none⟩) h.2.2.length c2) w.heap.size vl (M ++ opsK h s tl j) ∧ Blk wq gt 43 [.int .i64 (sn : Int), .int .i64 tf, .slice po tl.length co]) (fun _ i _ => tl.length - (RowKit.intOf i).toNat)
    case atStart => exact ⟨0, Nat.zero_le _, rfl, HS4.out, HT4.out⟩
    case round =>
     obtain ⟨j, hj, rfl, hst, hbt⟩ := hrel
     have t1' := hbt.cell 1 rfl
     have t2' := hbt.cell 2 rfl
     have hol := opsK_len h s tl j
     have hbq := hst.bel.size
     by_cases hj1 : j < tl.length
     ·obtain ⟨go, rfl, o0, o1, o2, o3⟩ := HOc.out j hj1
      have o0 := cell_later hst.bel o0
      have o1 := cell_later hst.bel o1
      have o2 := cell_later hst.bel o2
      have o3 := cell_later hst.bel o3
      have hk2 := okOp_key (HOpK.out (tl.getD j noOp) (by rw [show tl.getD j noOp = tl[j] by simp [hj1]]; exact List.getElem_mem hj1))
      have HON := Lib.hid (opsK_next h s tl j hj1)
      obtain ⟨⟨ow, ok, od, on⟩, hoo⟩ : ∃ o, tl.getD j noOp = o := ⟨_, rfl⟩
      rw [hoo] at o0 o1 o2 o3 hk2 HON
      dsimp only at o0 o1 o2 o3 hk2
      obtain ⟨kn, rfl⟩ : ∃ kn : Nat, ok = (kn : Int) := ⟨ok.toNat, by omega⟩
      have hkl : kn < h.2.1.length := by omega
      obtain ⟨p7, c7, e7, hc7⟩ := T1.out
      injection e7 with e7 _ e7c
      subst e7 e7c
      obtain ⟨gk, rfl, k0⟩ := hc7 kn hkl
      have k0 := cell_later hst.bel k0
      have q1 := hst.hb.cell 1 rfl
      have HOp : RowKit.Hid (opEv h s (ow, (kn : Int), od, on) = (if ow then 3 else 2, s, h.2.1.getD kn [], od, on, 0)) := Lib.hid (by unfold opEv; dsimp only; rw [Int.toNat_natCast])
      obtain ⟨key, hkey⟩ : ∃ q, h.2.1.getD kn [] = q := ⟨_, rfl⟩
      rw [hkey] at HOp k0
      have hbx := Blk.new wr 50 [.bool ow, .int .i64 (kn : Int), .int .i64 od, .int .i64 on]
      have hal := (Below.refl wr.heap.size wr).alloc (Nat.le_refl _) (.cells #[.bool ow, .int .i64 (kn : Int), .int .i64 od, .int .i64 on] 50)
      obtain ⟨Mj, hMj⟩ : ∃ q, M ++ opsK h s tl j = q := ⟨_, rfl⟩
      have hMl : Mj.length ≤ 2000 := by rw [← hMj, List.length_append]; omega
      have HStep : RowKit.Hid (M ++ opsK h s tl (j + 1) = Mj ++ [opEv h s (ow, (kn : Int), od, on)]) := Lib.hid (by rw [← hMj, HON.out, List.append_assoc])
      rw [hMj] at hst
      obtain ⟨p6, c6, rfl⟩ := owns_form hst.row
      go_wp2_with fail
      obtain ⟨wq1, hwq1⟩ : ∃ q, wr.alloc (.cells #[.bool ow, .int .i64 (kn : Int), .int .i64 od, .int .i64 on] 50) = q := ⟨_, rfl⟩
      have hbx1 : Blk wq1 wr.heap.size 50 [.bool ow, .int .i64 (kn : Int), .int .i64 od, .int .i64 on] := by rw [← hwq1]; exact hbx
      rw [hwq1] at hal
      try simp only [hwq1]
      have HSq := Lib.hid (hst.below hal)
      have HBt := Lib.hid (hbt.later hal)
      have q1' := cell_later hal q1
      have k0' := cell_later hal k0
      have hbq1 : w.heap.size ≤ wq1.heap.size := HSq.out.bel.size
      obtain ⟨gp, hgp⟩ : ∃ q, wr.heap.size = q := ⟨_, rfl⟩
      rw [hgp] at hbx1
      try simp only [hgp]
      have hgpl := hbx1.lt
      have HS : RowKit.Hid (∀ w', Below wq1.heap.size wq1 w' → (w'.cell? ⟨gp, 1, none⟩ = some (.int .i64 (kn : Int)) ∧ w'.cell? ⟨gp, 2, none⟩ = some (.int .i64 od) ∧ w'.cell? ⟨gp, 3, none⟩ = some (.int .i64 on) ∧ w'.cell? ⟨w.heap.size, 1, none⟩ = some (.slice (some ⟨gk, 0, none⟩) h.2.1.length c1) ∧ w'.cell? ⟨gk, kn, none⟩ = some (.string (bs key)) ∧ Below wq1.heap.size wq1 w')) := Lib.hid (fun w' hb => ⟨cell_later hb (hbx1.cell 1 rfl), cell_later hb (hbx1.cell 2 rfl), cell_later hb (hbx1.cell 3 rfl), cell_later hb q1', cell_later hb k0', hb⟩)
      have HX0 := Lib.hid hbx1
      clear hwq1 hbx o0 o1 o2 o3 hst hbt q1 k0 q1' k0' hbx1 t1' t2' hkey hoo hMj
      refine wp_region_keep (fun w' => w'.cell? ⟨gp, 1, none⟩ = some (.int .i64 (kn : Int)) ∧ w'.cell? ⟨gp, 2, none⟩ = some (.int .i64 od) ∧ w'.cell? ⟨gp, 3, none⟩ = some (.int .i64 on) ∧ w'.cell? ⟨w.heap.size, 1, none⟩ = some (.slice (some ⟨gk, 0, none⟩) h.2.1.length c1) ∧ w'.cell? ⟨gk, kn, none⟩ = some (.string (bs key)) ∧ Below wq1.heap.size wq1 w') [11] (by kernel_rfl) ?_
      have hB0 : Below (wq1).heap.size (wq1) (wq1).drew := Below.drew (Below.refl _ _)
      have hS0 := HS.out _ hB0
      refine wpAnyM_free 0 (v := ?_) rfl (by kernel_rfl) (by kernel_rfl) (by kernel_rfl) (fun _ _ _ h => h) (Or.inl ⟨by rfl, ?_⟩) ?_
      rotate_left
      ·intro w' hw';go_simp;try with_reducible rfl
      try simp only [Act.put, sq0, sq1, sq2]
      refine wpAnyM_free 1 (v := ?_) rfl (by kernel_rfl) (by kernel_rfl) (by kernel_rfl) (fun _ _ _ h => h) (Or.inl ⟨by rfl, ?_⟩) ?_
      rotate_left
      ·intro w' hw';go_simp;try with_reducible rfl
      try simp only [Act.put, sq0, sq1, sq2]
      refine wpAnyM_take 2 12 (v := ?_) rfl (by kernel_rfl) (by kernel_rfl) (by kernel_rfl) (by kernel_rfl) (by kernel_rfl) (fun _ _ _ h => h) (Or.inl ⟨by rfl, ?_⟩) hS0 ?_
      rotate_left
      ·intro w' hw';(try dsimp only at hw');go_simp;try with_reducible rfl
      try simp only [Act.put, sq0, sq1, sq2]
      refine wpAnyM_free 3 (v := ?_) rfl (by kernel_rfl) (by kernel_rfl) (by kernel_rfl) (fun _ _ _ h => h) (Or.inl ⟨by rfl, ?_⟩) ?_
      rotate_left
      ·intro w' hw';go_simp;try with_reducible rfl
      try simp only [Act.put, sq0, sq1, sq2]
      refine wpAnyM_take 4 12 (v := ?_) rfl (by kernel_rfl) (by kernel_rfl) (by kernel_rfl) (by kernel_rfl) (by kernel_rfl) (fun _ _ _ h => h) (Or.inl ⟨by rfl, ?_⟩) hS0 ?_
      rotate_left
      ·intro w' hw';(try dsimp only at hw');go_simp;try with_reducible rfl
      try simp only [Act.put, sq0, sq1, sq2]
      refine wpAnyM_free 5 (v := ?_) rfl (by kernel_rfl) (by kernel_rfl) (by kernel_rfl) (fun _ _ _ h => h) (Or.inl ⟨by rfl, ?_⟩) ?_
      rotate_left
      ·intro w' hw';go_simp;try with_reducible rfl
      try simp only [Act.put, sq0, sq1, sq2]
      refine wpAnyM_take 6 12 (v := ?_) rfl (by kernel_rfl) (by kernel_rfl) (by kernel_rfl) (by kernel_rfl) (by kernel_rfl) (fun _ _ _ h => h) (Or.inl ⟨by rfl, ?_⟩) hS0 ?_
      rotate_left
      ·intro w' hw';(try dsimp only at hw');go_simp;try with_reducible rfl
      try simp only [Act.put, sq0, sq1, sq2]
      refine wpAnyM_free 7 (v := ?_) rfl (by kernel_rfl) (by kernel_rfl) (by kernel_rfl) (fun _ _ _ h => h) (Or.inl ⟨by rfl, ?_⟩) ?_
      rotate_left
      ·intro w' hw';go_simp;try with_reducible rfl
      try simp only [Act.put, sq0, sq1, sq2]
      refine wpAnyM_take 8 12 (v := ?_) rfl (by kernel_rfl) (by kernel_rfl) (by kernel_rfl) (by kernel_rfl) (by kernel_rfl) (fun _ _ _ h => h) (Or.inl ⟨by rfl, ?_⟩) hS0 ?_
      rotate_left
      ·intro w' hw';(try dsimp only at hw');go_simp;try with_reducible rfl
      try simp only [Act.put, sq0, sq1, sq2]
      refine wpAnyM_free 9 (v := ?_) rfl (by kernel_rfl) (by kernel_rfl) (by kernel_rfl) (fun _ _ _ h => h) (Or.inl ⟨by rfl, ?_⟩) ?_
      rotate_left
      ·intro w' hw';go_simp;try with_reducible rfl
      try simp only [Act.put, sq0, sq1, sq2]
      refine wpAnyM_one 10 rfl (by kernel_rfl) (fun K hK => ?_)
      go_simp
      refine hK.out _ _ (fun _ _ => HS.out _ (hB0.alloc (Nat.le_refl _) _)) ?_
      clear hK K
      try simp only [Act.put, sq0, sq1, sq2]
      refine wpAnyM_one 11 rfl (by kernel_rfl) (fun K hK => ?_)
      go_simp
      refine hK.out _ _ (fun h => absurd h (by decide)) ?_
      clear hK K
      try simp only [Act.put, sq0, sq1, sq2]
      refine wpAnyM_done (by kernel_rfl) ?_ _
      try simp only [Act.put, sq0, sq1, sq2]
      have HSd := Lib.hid (HSq.out.below hB0)
      have HBd := Lib.hid (HBt.out.later hB0)
      have x0 := HX0.out.cell 0 rfl
      have xlt : gp < wq1.heap.size := hgpl
      clear HS hS0 hB0
      cases ow with
      | false =>
       go_wp2_with (at_builtin; refine wpList_append_own _ rfl (.tmp 67) (.tmp 69) 27 rfl w.heap.size 47 i0 (.agg #[.int .i64 0, .string ByteArray.empty, .string ByteArray.empty, .int .i64 0, .int .i64 0, .int .i64 0]) 6 64 Tryz.underlying27 hi hz0 hz1 hz2 rfl (by decide) _ Mj.length (evcs Mj) rfl ((HSd.out.row.alloc _).alloc _) ⟨wq1.heap.size + 1, 0, none⟩ 1 1 [.int .i64 2, .string (bs s), .string (bs key), .int .i64 od, .int .i64 on, .int .i64 0] rfl rfl (news_lit _ _ _ _ (by simp)) (ones_ev _ _ _ _ _ _) (by unfold maxLen; omega) (by omega) (by simp; omega) ?_)
       intro v5 w5 hown5 hgrow5 hnil5
       obtain ⟨hs5, hk5⟩ := HSd.out.more (x := opEv h s (false, (kn : Int), od, on)) (((Below.refl _ _).alloc (Nat.le_refl _) _).alloc (by simp) _) hown5 (by rw [HOp.out]; rfl) hgrow5
       have HS5 := Lib.hid hs5
       have HB5 := Lib.hid (hk5 _ _ _ HBd.out (by decide))
       clear hown5 hgrow5 hnil5 hs5 hk5
       go_wp2_with fail
       go_roundw
       case rel => exact ⟨j + 1, by omega, by go_num, by rw [HStep.out]; exact HS5.out, HB5.out⟩
       case measure => simp [RowKit.intOf]; omega
      | true =>
       go_wp2_with (at_builtin; refine wpList_append_own _ rfl (.tmp 67) (.tmp 69) 27 rfl w.heap.size 47 i0 (.agg #[.int .i64 0, .string ByteArray.empty, .string ByteArray.empty, .int .i64 0, .int .i64 0, .int .i64 0]) 6 64 Tryz.underlying27 hi hz0 hz1 hz2 rfl (by decide) _ Mj.length (evcs Mj) rfl ((HSd.out.row.alloc _).alloc _) ⟨wq1.heap.size + 1, 0, none⟩ 1 1 [.int .i64 3, .string (bs s), .string (bs key), .int .i64 od, .int .i64 on, .int .i64 0] rfl rfl (news_lit _ _ _ _ (by simp)) (ones_ev _ _ _ _ _ _) (by unfold maxLen; omega) (by omega) (by simp; omega) ?_)
       intro v5 w5 hown5 hgrow5 hnil5
       obtain ⟨hs5, hk5⟩ := HSd.out.more (x := opEv h s (true, (kn : Int), od, on)) (((Below.refl _ _).alloc (Nat.le_refl _) _).alloc (by simp) _) hown5 (by rw [HOp.out]; rfl) hgrow5
       have HS5 := Lib.hid hs5
       have HB5 := Lib.hid (hk5 _ _ _ HBd.out (by decide))
       clear hown5 hgrow5 hnil5 hs5 hk5
       go_wp2_with fail
       go_roundw
       case rel => exact ⟨j + 1, by omega, by go_num, by rw [HStep.out]; exact HS5.out, HB5.out⟩
       case measure => simp [RowKit.intOf]; omega
     ·have hje : j = tl.length := by omega
      subst hje
      have HSt := Lib.hid hst
      obtain ⟨Mj, hMj⟩ : ∃ q, M ++ opsK h s tl tl.length = q := ⟨_, rfl⟩
      have hMl : Mj.length ≤ 2000 := by rw [← hMj, List.length_append]; omega
      have HStep : RowKit.Hid (rawK h (k + 1) = Mj ++ [endEv s tf]) := Lib.hid (by rw [HNx.out, ← HAll.out, ← hMj, List.append_assoc])
      rw [hMj] at HSt
      obtain ⟨p6, c6, rfl⟩ := owns_form HSt.out.row
      have hadd : IntKind.i64.wrap (3 + tf) = 3 + tf := by rw [IntKind.wrap_i64]; omega
      clear hst hbt hMj
      go_wp2_with (at_builtin; refine wpList_append_own _ rfl (.tmp 71) (.tmp 77) 27 rfl w.heap.size 47 i0 (.agg #[.int .i64 0, .string ByteArray.empty, .string ByteArray.empty, .int .i64 0, .int .i64 0, .int .i64 0]) 6 64 Tryz.underlying27 hi hz0 hz1 hz2 rfl (by decide) _ Mj.length (evcs Mj) rfl (HSt.out.row.alloc _) ⟨wr.heap.size, 0, none⟩ 1 1 [.int .i64 (3 + tf), .string (bs s), .string (bs []), .int .i64 0, .int .i64 0, .int .i64 0] rfl rfl (news_lit _ _ _ _ (by simp)) (ones_ev _ _ _ _ _ _) (by unfold maxLen; omega) (by omega) (by simp; omega) ?_)
      intro v5 w5 hown5 hgrow5 hnil5
      obtain ⟨hs5, -⟩ := HSt.out.more (x := endEv s tf) ((Below.refl _ _).alloc (Nat.le_refl _) _) hown5 rfl hgrow5
      have HS5 := Lib.hid hs5
      clear hown5 hgrow5 hnil5 hs5
      go_wp2_with fail
      go_roundw
      case rel => exact ⟨k + 1, by omega, by go_num, by rw [HStep.out]; exact HS5.out⟩
      case measure => simp [RowKit.intOf]; omega
   ·have hke : k = h.2.2.length := by omega
    subst hke
    rw [rawK_all] at hst
    have hlen : (rawE h).length ≤ 880 := by have := show_len HMM.out; unfold showE at this; rwa [sh_lined_len] at this
    obtain ⟨A, hA⟩ : ∃ A, rawE h = A := ⟨_, rfl⟩
    have HShow : RowKit.Hid (showE h = lined A 0) := Lib.hid (by unfold showE; rw [hA])
    rw [hA] at hst hlen
    have hrow := hst.row
    obtain ⟨p6, c6, rfl⟩ := owns_form hrow
    rw [← linedK_none A] at hrow
    rw [linedK_len] at hrow
    have HR := Lib.hid hrow
    have HB := Lib.hid hst.bel
    clear hst hrow hA
    go_wp2_with fail
    go_loopw [12] (fun i wq => ∃ j : Nat, j ≤ A.length ∧ i = .int .i64 j ∧ wq.ownsRow w.heap.size 47 6 (.slice p6 A.length c6) A.length (evcs (linedK A j)) ∧ Below w.heap.size w wq) (fun i _ => A.length - (RowKit.intOf i).toNat)
    case atStart => exact ⟨0, Nat.zero_le _, rfl, HR.out, HB.out⟩
    case round =>
     obtain ⟨j, hj, rfl, hrow, hbw⟩ := hrel
     by_cases hj1 : j < A.length
     ·obtain ⟨gE, cE, eE, aE, fE⟩ := own_cell (f := evc) (s := 6) noEv (fun _ => rfl) hrow (linedK_len A j) j hj1
      injection eE with eE _ eE'
      subst eE eE'
      have e5 := aE 5 _ rfl
      have f5 := fE (j * 6 + 5)
      have hst := (hrow.stored (j * 6 + 5) (.int .i64 ((j : Int) + 1))).1
      rw [linedK_next A j hj1] at hst
      have HRo := Lib.hid hst
      have HBo := Lib.hid (hbw.setCell (p := ⟨gE, j * 6 + 5, none⟩) (hrow.lt gE rfl).1 (.int .i64 ((j : Int) + 1)))
      clear hst hrow hbw aE fE
      go_wp2_with fail
      go_roundw
      case rel => exact ⟨j + 1, by omega, by go_num, HRo.out, HBo.out⟩
      case measure => simp [RowKit.intOf]; omega
     ·have hje : j = A.length := by omega
      subst hje
      rw [linedK_all] at hrow
      have HOut : RowKit.Hid (EvsS wr (.slice p6 A.length c6) (lined A 0)) := Lib.hid (own_evs (by rw [sh_lined_len]; exact hrow))
      clear hrow
      go_wp2_with fail
      go_ret2
      rw [HE.out]
      exact ⟨_, rfl, by rw [HShow.out]; exact HOut.out, hbw⟩
end Go.Proofs.YthgbfaoblnkniaaGreatDoor
