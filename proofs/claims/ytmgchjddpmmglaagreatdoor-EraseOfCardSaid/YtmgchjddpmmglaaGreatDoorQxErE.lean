/-
  Layer 14's reference (erase): a history without its lost reads, walked. No conditions.
-/
import Derived.Test.YtmgchjddpmmglaaGreatDoorQxErO
import Derived.Test.YtmgchjddpmmglaaGreatDoorQxErD
namespace Go.Proofs.YtmgchjddpmmglaaGreatDoor
open Go.RowKit Go.Lib
set_option maxRecDepth 100000 in
set_option maxHeartbeats 4000000 in
theorem raw14_any {w : World} {v : Value} {h : HistM} (hv : HistV w v h) (hm : Modst h) (hmm : mayH h = true) :
  Calls Tryz.prog 79 #[v] w fun e w' => ∃ v', e = .returned v' ∧ HistV w' v' (eraseH h) ∧ Below w.heap.size w w' := by
 obtain ⟨v0, v1, v2, rfl, ⟨p0, c0, rfl, k0⟩, ⟨p1, c1, rfl, k1⟩, ⟨p2, c2, rfl, k2⟩⟩ := hv
 obtain ⟨n0, hn0⟩ : ∃ n, h.1.length = n := ⟨_, rfl⟩
 rw [hn0]
 have HN0 := Lib.hid hn0
 have HS0 := Lib.hid k0
 have HK0 := Lib.hid k1
 have HX := Lib.hid k2
 have HMod := Lib.hid hm
 have HMM := Lib.hid ((mayH_iff h).1 hmm)
 have m2 : h.2.1.length ≤ 1000 := hm.2.1
 have m3 : h.2.2.length ≤ 1000 := hm.2.2.1
 have hlen0 : n0 ≤ 1000 := by rw [← hn0]; exact hm.1
 have hal := ((Below.refl w.heap.size w).alloc (Nat.le_refl _) (.cells #[.slice p0 n0 c0, .slice p1 h.2.1.length c1, .slice p2 h.2.2.length c2] 25)).alloc (by simp) (.cells #[.slice none 0 0, .slice none 0 0, .slice none 0 0] 25)
 have hbx := (Blk.new w 25 [.slice p0 n0 c0, .slice p1 h.2.1.length c1, .slice p2 h.2.2.length c2]).alloc (.cells #[.slice none 0 0, .slice none 0 0, .slice none 0 0] 25)
 have hbr := Blk.new (w.alloc (.cells #[.slice p0 n0 c0, .slice p1 h.2.1.length c1, .slice p2 h.2.2.length c2] 25)) 25 [.slice none 0 0, .slice none 0 0, .slice none 0 0]
 simp only [World.size_alloc] at hbr
 have HAL := Lib.hid hal
 have HBX := Lib.hid hbx
 have HBR := Lib.hid hbr
 obtain ⟨i0, hi, hz0, hz1, hz2⟩ := info_parts info_str
 obtain ⟨j0, hj, hj0, hj1, hj2⟩ := info_parts info_i64
 clear k0 k1 k2 hm hmm hal hbx hbr hn0
 go_enter Tryz.func79, Tryz.ntmps79
 go_upto_region 1 with fail
 obtain ⟨W1, hW1⟩ : ∃ q, (w.alloc (.cells #[.slice p0 n0 c0, .slice p1 h.2.1.length c1, .slice p2 h.2.2.length c2] 25)).alloc (.cells #[.slice none 0 0, .slice none 0 0, .slice none 0 0] 25) = q := ⟨_, rfl⟩
 rw [hW1] at HAL HBX HBR ⊢
 clear hW1
 have x0 := HBX.out.cell 0 rfl
 have hw1 : w.heap.size + 1 < W1.heap.size := HBR.out.lt
 have hw2 : w.heap.size < W1.heap.size := by omega
 have HS1 := Lib.hid (fun j hj => by
  obtain ⟨g, e, hc⟩ := HS0.out j hj
  exact ⟨g, e, cell_later HAL.out hc⟩ : HasTexts W1 p0 h.1)
 go_cut [3] (fun s3 wx => ∃ vs G, s3 = .pointer (some ⟨G, 0, none⟩) ∧ wx.ownsRow 0 9 1 vs h.1.length (strs h.1) ∧ Blk wx G 25 [vs, .slice none 0 0, .slice none 0 0] ∧ Below W1.heap.size W1 wx ∧ W1.heap.size ≤ G)
 case first =>
  have hrow := World.ownsRow_made (base := W1.heap.size) (size := 1) (e := 9) W1 #[] 0 (Nat.le_refl _) (Nat.zero_le _) rfl
  have HRow := Lib.hid hrow
  clear hrow
  cases p0 with
  | none =>
   have e0 : h.1 = [] := by
    cases hh : h.1 with
    | nil => rfl
    | cons a l =>
     have := HS1.out 0 (by rw [hh]; simp)
     obtain ⟨g, e, -⟩ := this
     cases e
   have HN2 := Lib.hid e0
   have en : n0 = 0 := by rw [← HN0.out, e0]; rfl
   clear e0 hlen0 HN0
   subst en
   go_wp2_with fail
   go_meet
   exact ⟨_, _, rfl, by rw [HN2.out]; exact (owns_base HRow.out (Nat.zero_le _)).alloc _, (by have h9 := Blk.new (W1.alloc (.cells #[] 9)) 25 [.slice (some ⟨W1.heap.size, 0, none⟩) 0 0, .slice none 0 0, .slice none 0 0]; simp only [World.size_alloc] at h9; exact h9), ((Below.refl _ _).alloc (Nat.le_refl _) _).alloc (by simp) _, by simp⟩
  | some a0 =>
   have hs2 := of_news (w := W1.alloc (.cells #[] 9)) (a := a0) (L := h.1) (fun j hj => by
    obtain ⟨g, e, hc⟩ := HS1.out j hj
    exact ⟨g, e, cell_later ((Below.refl _ _).alloc (Nat.le_refl _) _) hc⟩)
   have HS2 := Lib.hid hs2
   clear hs2
   go_wp2_with (at_builtin; refine wpList_append_own _ rfl _ _ 22 rfl W1.heap.size 9 i0 (.string ByteArray.empty) 1 16 Tryz.underlying22 hi hz0 hz1 hz2 rfl (by decide) _ 0 [] rfl HRow.out a0 n0 c0 (strs h.1) rfl (by simp [strs, HN0.out]) HS2.out (ones_strs _) (by unfold maxLen; omega) (by omega) (by simp) ?_)
   intro v4 w4 hown4 hgrow hnil
   try simp only [Nat.zero_add, List.nil_append] at hown4
   obtain ⟨p4, c4, rfl⟩ := owns_form hown4
   have hb4 : Below W1.heap.size W1 w4 := ((Below.refl W1.heap.size W1).alloc (Nat.le_refl _) _).grown hgrow (by simp) (fun k hk => by simp [Value.ownBlock] at hk; omega)
   have HO4 : RowKit.Hid (w4.ownsRow 0 9 1 (.slice p4 n0 c4) h.1.length (strs h.1)) := Lib.hid (owns_base (by rw [HN0.out]; exact hown4) (Nat.zero_le _))
   have HB4 := Lib.hid hb4
   clear hown4 hgrow hnil hb4
   go_wp2_with fail
   go_meet
   exact ⟨.slice p4 n0 c4, _, rfl, HO4.out.alloc _, Blk.new w4 25 [.slice p4 n0 c4, .slice none 0 0, .slice none 0 0], HB4.out.alloc HB4.out.size _, HB4.out.size⟩
 case rest =>
  obtain ⟨vs, G, rfl, hvs, hg, hbx, hG⟩ := hcut
  have HVs := Lib.hid (hvs.alloc (.cells #[] 3))
  have HG := Lib.hid (hg.alloc (.cells #[] 3))
  have HBc := Lib.hid hbx
  have hint := World.ownsRow_made (base := wc.heap.size) (size := 1) (e := 3) wc #[] 0 (Nat.le_refl _) (Nat.zero_le _) rfl
  have HIn := Lib.hid hint
  have hgl : G < wc.heap.size := hg.lt
  have hsb : ∀ q, vs.ownBlock = some q → q < wc.heap.size := fun q hq => (hvs.lt q hq).2
  have HSb := Lib.hid hsb
  clear hvs hg hbx x0 hlen0 hint hsb
  have hst : RawSt w wc.heap.size G (wc.alloc (.cells #[] 3)) (.slice p0 n0 c0) (.slice p1 h.2.1.length c1) (.slice p2 h.2.2.length c2) vs (.slice none 0 0) (.slice (some ⟨wc.heap.size, 0, none⟩) 0 0) h.1 (keptK h 0) (toL h 0) :=
   ⟨HVs.out, HSb.out, World.ownsRow_nil _ _ _ _, HIn.out, (HBX.out.later HBc.out).alloc _, (HBR.out.later HBc.out).alloc _, HG.out, (below_next HAL.out HBc.out).alloc (Nat.le_trans HAL.out.size HBc.out.size) _, by simp, hgl, by omega⟩
  have HST0 := Lib.hid hst
  clear hst HVs HG HIn HSb
  go_wp2_with fail
  obtain ⟨N, hN⟩ : ∃ q, wc.heap.size = q := ⟨_, rfl⟩
  rw [hN] at HST0 ⊢
  go_loopw [4, 5] (fun vi i wr => ∃ (k : Nat) (vk : Value), k ≤ h.2.1.length ∧ i = .int .i64 k ∧ RawSt w N G wr (.slice p0 n0 c0) (.slice p1 h.2.1.length c1) (.slice p2 h.2.2.length c2) vs vk vi h.1 (keptK h k) (toL h k)) (fun _ i _ => h.2.1.length - (RowKit.intOf i).toNat)
  case atStart => exact ⟨0, _, Nat.zero_le _, rfl, HST0.out⟩
  case round =>
   obtain ⟨wo, rfl⟩ : ∃ q, q = wr := ⟨_, rfl⟩
   obtain ⟨k, vk, hk, rfl, rs⟩ := hrel
   have x1 := rs.h.cell 1 rfl
   by_cases hk1 : k < h.2.1.length
   ·have RS0 := Lib.hid rs
    obtain ⟨gk, rfl, t1⟩ := HK0.out k hk1
    have HT1 := Lib.hid (fun w' (hb : Below w.heap.size w w') => cell_later hb t1)
    have hkl : (keptK h k).length ≤ k := by rw [kept_len]; exact stay_le h k
    have HKl := Lib.hid hkl
    have HNk := Lib.hid (kept_next h k)
    have HTn := Lib.hid (toL_next h k)
    have HUs : RowKit.Hid (anyK k (allOps h) = usedK h k) := Lib.hid rfl
    obtain ⟨s, hs⟩ : ∃ s, h.2.1.getD k [] = s := ⟨_, rfl⟩
    rw [hs] at HT1 HNk
    clear rs t1 hs hkl
    go_wp2_with fail
    clear x1
    go_loopw [6, 7] (fun u i wr => ∃ a : Nat, a ≤ h.2.2.length ∧ i = .int .i64 a ∧ u = .bool (anyK k (opsTo h a)) ∧ Below wo.heap.size wo wr) (fun _ i _ => h.2.2.length - (RowKit.intOf i).toNat)
    case atStart => exact ⟨0, Nat.zero_le _, rfl, rfl, Below.refl _ _⟩
    case round =>
     obtain ⟨a, ha, rfl, rfl, hbw⟩ := hrel
     have x2 := (RS0.out.later hbw).h.cell 2 rfl
     by_cases ha1 : a < h.2.2.length
     ·have hb0 := below_next RS0.out.b hbw
      obtain ⟨g, sv, rfl, a1, a2, a3, a4⟩ := HX.out a ha1
      have htl : (h.2.2.getD a noTxn).2.2.length ≤ 1000 := by
       have e : h.2.2.getD a noTxn = h.2.2[a] := by simp [ha1]
       rw [e]
       exact HMod.out.2.2.2.2.2 _ (List.getElem_mem ha1)
      have hnx := opsTo_next h a ha1
      obtain ⟨⟨ts, tf, tl⟩, htt⟩ : ∃ q, h.2.2.getD a noTxn = q := ⟨_, rfl⟩
      rw [htt] at a4 htl hnx
      dsimp only at a4 htl hnx
      obtain ⟨p3, c3, rfl, -, hops⟩ := a4
      have HO := Lib.hid hops
      have HNx := Lib.hid hnx
      have HA3 := Lib.hid (fun w' (hb : Below w.heap.size w w') => cell_later hb a3)
      have HBw := Lib.hid hbw
      obtain ⟨A, hA⟩ : ∃ A, opsTo h a = A := ⟨_, rfl⟩
      rw [hA] at HNx ⊢
      clear hops hnx htt hbw hb0 a1 a2 a3 hA
      go_wp2_with fail
      clear x2
      go_loopw [6, 8] (fun u i wr => ∃ m : Nat, m ≤ tl.length ∧ i = .int .i64 m ∧ u = .bool (anyK k (A ++ tl.take m)) ∧ Below wo.heap.size wo wr) (fun _ i _ => tl.length - (RowKit.intOf i).toNat)
      case atStart => exact ⟨0, Nat.zero_le _, rfl, by simp, HBw.out⟩
      case round =>
       obtain ⟨m, hm, rfl, rfl, hbw⟩ := hrel
       have hb0 := below_next RS0.out.b hbw
       have x2 := (RS0.out.later hbw).h.cell 2 rfl
       have t3 := HA3.out _ hb0
       by_cases hm1 : m < tl.length
       ·obtain ⟨go, rfl, q1, q2, q3, q4⟩ := HO.out m hm1
        have q1 := cell_later hb0 q1
        have q2 := cell_later hb0 q2
        have q3 := cell_later hb0 q3
        have q4 := cell_later hb0 q4
        have hsn := anyK_snoc k (A ++ tl.take m) (tl.getD m noOp)
        rw [List.append_assoc, ← take_snoc tl m hm1] at hsn
        obtain ⟨⟨ow, ok, od, on⟩, hoo⟩ : ∃ q, tl.getD m noOp = q := ⟨_, rfl⟩
        rw [hoo] at q1 q2 q3 q4 hsn
        dsimp only at q1 q2 q3 q4
        obtain ⟨U, hU⟩ : ∃ U, anyK k (A ++ tl.take m) = U := ⟨_, rfl⟩
        rw [hU] at hsn ⊢
        have HSn := Lib.hid hsn
        have HBq := Lib.hid (hbw.alloc hbw.size (.cells #[.bool ow, .int .i64 ok, .int .i64 od, .int .i64 on] 51))
        clear hsn hoo hU hbw hb0
        cases U with
        | true =>
         have HS2 : RowKit.Hid (anyK k (A ++ tl.take (m + 1)) = true) := Lib.hid (by rw [HSn.out]; rfl)
         clear HSn
         go_wp2_with fail
         go_roundw
         case rel => exact ⟨m + 1, by omega, by go_num, by rw [HS2.out], HBq.out⟩
         case measure => simp [RowKit.intOf]; omega
        | false =>
         by_cases hok : ok = (k : Int)
         ·by_cases hod : od = 2
          ·have HS2 : RowKit.Hid (anyK k (A ++ tl.take (m + 1)) = false) := Lib.hid (by rw [HSn.out]; simp [lostO, hod])
           clear HSn
           subst hok hod
           go_wp2_with fail
           go_roundw
           case rel => exact ⟨m + 1, by omega, by go_num, by rw [HS2.out], HBq.out⟩
           case measure => simp [RowKit.intOf]; omega
          ·have HS2 : RowKit.Hid (anyK k (A ++ tl.take (m + 1)) = true) := Lib.hid (by rw [HSn.out]; simp [lostO, hod, hok])
           have hod2 : (od != 2) = true := by simpa using hod
           clear HSn
           subst hok
           go_wp2_with fail
           go_roundw
           case rel => exact ⟨m + 1, by omega, by go_num, by rw [HS2.out], HBq.out⟩
           case measure => simp [RowKit.intOf]; omega
         ·have HS2 : RowKit.Hid (anyK k (A ++ tl.take (m + 1)) = false) := Lib.hid (by rw [HSn.out]; simp [hok])
          have hok2 : (ok == (k : Int)) = false := by simpa using hok
          clear HSn
          go_wp2_with fail
          go_roundw
          case rel => exact ⟨m + 1, by omega, by go_num, by rw [HS2.out], HBq.out⟩
          case measure => simp [RowKit.intOf]; omega
       ·have hke : m = tl.length := by omega
        subst hke
        rw [List.take_length, ← HNx.out]
        have HBq := Lib.hid hbw
        clear hbw hb0
        go_wp2_with fail
        go_roundw
        case rel => exact ⟨a + 1, by omega, by go_num, rfl, HBq.out⟩
        case measure => simp [RowKit.intOf]; omega
     ·have hke : a = h.2.2.length := by omega
      subst hke
      rw [opsTo_all, HUs.out]
      have hr := RS0.out.later hbw
      obtain ⟨pk, ck, rfl⟩ := owns_form hr.k
      have y1 := hr.g.cell 1 rfl
      have HRs := Lib.hid hr
      have hgl2 : G < wr.heap.size := hr.g.lt
      clear hbw hr
      go_wp2_with (at_builtin; refine wpList_append_own _ rfl _ _ 56 rfl N 3 j0 (.int .i64 0) 1 8 Tryz.underlying56 hj hj0 hj1 hj2 rfl (by decide) _ _ _ rfl (HRs.out.i.alloc _) ⟨wr.heap.size, 0, none⟩ 1 1 [.int .i64 ((keptK h k).length : Nat)] rfl rfl (news_int _ _ _) (ones_int _) (by rw [toL_len]; unfold maxLen; omega) (by rw [toL_len]; omega) (by have := HRs.out.c; simp; omega) ?_)
      intro v4 w4 hown4 hgrow hnil
      have hr4 := raw_int HRs.out hown4 hgrow
      rw [← HTn.out] at hr4
      obtain ⟨wu, rfl⟩ : ∃ q, q = w4 := ⟨_, rfl⟩
      have RS := Lib.hid hr4
      clear hown4 hgrow hnil hr4 y1
      cases hu : usedK h k with
      | false =>
       have HN3 : RowKit.Hid (keptK h (k + 1) = keptK h k) := Lib.hid (by rw [HNk.out, if_neg (by rw [hu]; exact Bool.false_ne_true)])
       clear hu
       go_wp2_with fail
       go_roundw
       case rel => exact ⟨k + 1, _, by omega, by go_num, by rw [HN3.out]; exact RS.out⟩
       case measure => simp [RowKit.intOf]; omega
      | true =>
       have HN3 : RowKit.Hid (keptK h (k + 1) = keptK h k ++ [s]) := Lib.hid (by rw [HNk.out, if_pos hu])
       have HS : RowKit.Hid (∀ w', Below wu.heap.size wu w' → w'.cell? ⟨w.heap.size, 1, none⟩ = some (.slice (some ⟨gk, 0, none⟩) h.2.1.length c1) ∧ w'.cell? ⟨G, 1, none⟩ = some (.slice pk (keptK h k).length ck) ∧ w'.cell? ⟨gk, k, none⟩ = some (.string (bs s)) ∧ Below wu.heap.size wu w') := Lib.hid (fun w' hb => ⟨(RS.out.h.later hb).cell 1 rfl, (RS.out.g.later hb).cell 1 rfl, HT1.out _ (below_next RS.out.b hb), hb⟩)
       clear hu
       go_upto_region 17 with fail
       refine wp_region_keep (fun w' => w'.cell? ⟨w.heap.size, 1, none⟩ = some (.slice (some ⟨gk, 0, none⟩) h.2.1.length c1) ∧ w'.cell? ⟨G, 1, none⟩ = some (.slice pk (keptK h k).length ck) ∧ w'.cell? ⟨gk, k, none⟩ = some (.string (bs s)) ∧ Below wu.heap.size wu w') [8, 10] (by kernel_rfl) ?_
       have hB0 : Below (wu).heap.size (wu) (wu).drew := Below.drew (Below.refl _ _)
       obtain ⟨wd, hwd⟩ : ∃ q, (wu).drew = q := ⟨_, rfl⟩
       rw [hwd] at hB0 ⊢
       have HZ0 : RowKit.Hid (wd.heap.size = (wu).heap.size) := Lib.hid (by rw [← hwd]; rfl)
       clear hwd
       refine wfr 0 (v := ?_) rfl ?_ ?_
       rotate_left
       ·intro w' hw';go_simp;try with_reducible rfl
       try simp only [Act.put, sq]
       refine wtk 1 11 (v := ?_) rfl ?_ (HS.out _ hB0) ?_
       rotate_left
       ·intro w' hw';(try dsimp only at hw');go_simp;try with_reducible rfl
       try simp only [Act.put, sq]
       refine wfr 2 (v := ?_) rfl ?_ ?_
       rotate_left
       ·intro w' hw';go_simp;try with_reducible rfl
       try simp only [Act.put, sq]
       refine wtk 3 11 (v := ?_) rfl ?_ (HS.out _ hB0) ?_
       rotate_left
       ·intro w' hw';(try dsimp only at hw');go_simp;try with_reducible rfl
       try simp only [Act.put, sq]
       refine won 4 rfl fun K hK => ?_
       go_simp
       refine hK.out _ _ (fun _ h => h) ?_
       clear hK K
       try simp only [Act.put, sq]
       refine won 5 rfl fun K hK => ?_
       go_simp
       refine hK.out _ _ (fun _ h => h) ?_
       clear hK K
       try simp only [Act.put, sq]
       have hSn := HS.out _ hB0
       refine won 6 rfl fun K hK => ?_
       go_simp
       refine hK.out _ _ (fun _ h => h) ?_
       clear hK K
       clear hSn
       try simp only [Act.put, sq]
       refine won 7 rfl fun K hK => ?_
       go_simp
       have hB7 := hB0.alloc hB0.size (.cells #[.string (bs s)] 9)
       have hBl := Blk.new (wd) 9 [.string (bs s)]
       have hb7 := (Below.refl (wd).heap.size (wd)).alloc (Nat.le_refl _) (.cells #[.string (bs s)] 9)
       have hgB : (wd).heap.size < ((wd).alloc (.cells #[.string (bs s)] 9)).heap.size := by simp
       have hge : (wu).heap.size ≤ (wd).heap.size := hB0.size
       have hgo : ∀ k, k < (wd).heap.size → ((wd).alloc (.cells #[.string (bs s)] 9)).heap[k]? = (wd).heap[k]? := fun k hk => heap_kept _ _ hk
       refine hK.out _ _ (fun _ _ => HS.out _ hB7) ?_
       clear hK K
       try simp only [Act.put, sq]
       obtain ⟨w7, hw7⟩ : ∃ q, (wd).alloc (.cells #[.string (bs s)] 9) = q := ⟨_, rfl⟩
       rw [hw7] at hB7 hb7 hBl hgB hgo
       try simp only [hw7]
       obtain ⟨gh, hgh⟩ : ∃ q, (wd).heap.size = q := ⟨_, rfl⟩
       rw [hgh] at hBl hgB hgo hge
       try simp only [hgh]
       have HBl := Lib.hid hBl
       clear hBl hw7
       refine won 8 rfl fun K hK => ?_
       refine step_append_own (by rfl) _ _ 22 (by rfl) N 9 i0 (.string ByteArray.empty) 1 16 Tryz.underlying22 hi hz0 hz1 hz2 rfl (by decide) (.slice pk (keptK h k).length ck) (keptK h k).length (strs (keptK h k)) (by rfl) (owns_later RS.out.k hB7) ⟨gh, 0, none⟩ 1 1 [.string (bs s)] (by rfl) rfl (fun j u hj => by
         match j, hj with
         | 0, hj =>
          simp at hj
          subst hj
          rw [Addr.add_lit, Nat.zero_add]
          exact HBl.out.cell 0 rfl) (ones_txt _) (by have := HKl.out; unfold maxLen; omega) (by have := HKl.out; omega) (by have := RS.out.c; have := hB7.size; omega) ?_
       intro v4 w4 hown4 hgrow hnil
       obtain ⟨g4, cap4, rfl⟩ := owns_some hown4
       have hgb := (RS.out.g.later hB7).grown (owns_later RS.out.k hB7) RS.out.d hgrow
       have r1 := hgb.cell 1 rfl
       have f1 := hgb.frozen 1
       have HRk := Lib.hid (raw_key RS.out hB7 hown4 hgrow)
       refine hK.out _ _ (fun h => absurd h (by decide)) ?_
       clear hK K hown4 hgrow hnil hgb
       try simp only [Act.put, sq]
       refine won 9 rfl fun K hK => ?_
       go_simp
       refine hK.out _ _ (fun _ h => h) ?_
       clear hK K
       try simp only [Act.put, sq]
       refine won 10 rfl fun K hK => ?_
       go_simp
       refine hK.out _ _ (fun h => absurd h (by decide)) ?_
       clear hK K
       try simp only [Act.put, sq]
       clear r1 f1
       refine wpAnyM_done (by kernel_rfl) ?_ _
       try simp only [Act.put, sq]
       go_wp2_with fail
       go_roundw
       case rel => exact ⟨k + 1, _, by omega, by go_num, by rw [HN3.out]; exact HRk.out⟩
       case measure => simp [RowKit.intOf]; omega
   ·have hke : k = h.2.1.length := by omega
    subst hke
    obtain ⟨pi, ci, rfl⟩ := owns_form rs.i
    have hr0 : RawT w wo.heap.size G wo (.slice p0 n0 c0) (.slice p1 h.2.1.length c1) (.slice p2 h.2.2.length c2) vs vk (.slice none 0 0) (.slice pi (toL h h.2.1.length).length ci) h.1 (keptK h h.2.1.length) (toL h h.2.1.length) [] := ⟨World.ownsRow_nil _ _ _ _, (fun t ht => by cases ht), rs.s, owns_base rs.k (Nat.zero_le _), owns_base rs.i (Nat.zero_le _), rs.h, rs.r, rs.g, rs.b, Nat.le_refl _, rs.g.lt, rs.e⟩
    have HR0 := Lib.hid hr0
    clear rs hr0
    obtain ⟨i3, hi3, hy0, hy1, hy2⟩ := info_parts info_op
    obtain ⟨i4, hi4, hw0, hw1', hw2'⟩ := info_parts info_txn
    go_wp2_with fail
    obtain ⟨M, hM⟩ : ∃ q, wo.heap.size = q := ⟨_, rfl⟩
    rw [hM] at HR0
    go_loopw [10] (fun i wr => ∃ (k : Nat) (vt : Value) (LV : List TxnV), k ≤ h.2.2.length ∧ i = .int .i64 k ∧ LV.map (·.1) = (h.2.2.take k).map (eraseT h) ∧ RawT w M G wr (.slice p0 n0 c0) (.slice p1 h.2.1.length c1) (.slice p2 h.2.2.length c2) vs vk vt (.slice pi (toL h h.2.1.length).length ci) h.1 (keptK h h.2.1.length) (toL h h.2.1.length) LV) (fun i _ => h.2.2.length - (RowKit.intOf i).toNat)
    case atStart => exact ⟨0, _, [], Nat.zero_le _, rfl, rfl, HR0.out⟩
    case round =>
     obtain ⟨wv, rfl⟩ : ∃ q, q = wr := ⟨_, rfl⟩
     obtain ⟨k, vt, LV, hk, rfl, hLV, st⟩ := hrel
     have hll : LV.length = k := by
      have := congrArg List.length hLV
      simpa [hk] using this
     have HLl := Lib.hid hll
     have x2 := st.h.cell 2 rfl
     clear hll
     by_cases hk1 : k < h.2.2.length
     ·obtain ⟨g, sv, rfl, a1, a2, a3, a4⟩ := HX.out k hk1
      have htl : (h.2.2.getD k noTxn).2.2.length ≤ 1000 := by
       have e : h.2.2.getD k noTxn = h.2.2[k] := by simp [hk1]
       rw [e]
       exact HMod.out.2.2.2.2.2 _ (List.getElem_mem hk1)
      have a1 := cell_later st.b a1
      have a2 := cell_later st.b a2
      have hnx : (h.2.2.take (k + 1)).map (eraseT h) = (h.2.2.take k).map (eraseT h) ++ [eraseT h (h.2.2.getD k noTxn)] := by
       rw [List.take_succ_eq_append_getElem hk1, List.map_append]
       simp [hk1]
      have hin : ∀ m, m < (h.2.2.getD k noTxn).2.2.length → (h.2.2.getD k noTxn).2.2.getD m noOp ∈ allOps h := fun m hm => by
       have e : h.2.2.getD k noTxn = h.2.2[k] := by simp [hk1]
       rw [e] at hm ⊢
       refine List.mem_flatMap.2 ⟨_, List.getElem_mem hk1, ?_⟩
       rw [show h.2.2[k].2.2.getD m noOp = h.2.2[k].2.2[m] by simp [hm]]
       exact List.getElem_mem hm
      obtain ⟨⟨ts, tf, tl⟩, htt⟩ : ∃ q, h.2.2.getD k noTxn = q := ⟨_, rfl⟩
      rw [htt] at a1 a2 a4 htl hnx hin
      dsimp only at a1 a2 a4 htl hin
      obtain ⟨p3, c3, rfl, -, hops⟩ := a4
      have HO := Lib.hid hops
      have HNx := Lib.hid hnx
      have HIn := Lib.hid hin
      have HLV := Lib.hid hLV
      have HA3 := Lib.hid (fun w' (hb : Below w.heap.size w w') => cell_later hb a3)
      have SD := Lib.hid st
      have HWS : RowKit.Hid (w.heap.size + 1 < G ∧ G < M ∧ M ≤ wv.heap.size) := Lib.hid ⟨st.e, st.d, st.c⟩
      have HIx := Lib.hid (fun w' (hb : Below wv.heap.size wv w') => own_intsI (owns_later SD.out.i hb))
      have HS : RowKit.Hid (∀ w', Below wv.heap.size wv w' → w'.cell? ⟨w.heap.size, 2, none⟩ = some (.slice (some ⟨g, 0, none⟩) h.2.2.length c2) ∧ w'.cell? ⟨g, k * 3, none⟩ = some (.int .i64 ts) ∧ w'.cell? ⟨g, k * 3 + 1, none⟩ = some (.int .i64 tf) ∧ Below wv.heap.size wv w') := Lib.hid (fun w' hb => ⟨(SD.out.h.later hb).cell 2 rfl, cell_later hb a1, cell_later hb a2, hb⟩)
      clear hops hnx hin htt hLV st
      go_upto_region 21 with fail
      clear x2 a1 a2 a3
      go_cut [11] (fun s11 wx => ∃ q, s11 = .pointer (some ⟨q, 0, none⟩) ∧ Blk wx q 47 [.int .i64 ts, .int .i64 tf, .slice none 0 0] ∧ wv.heap.size ≤ q ∧ Below wv.heap.size wv wx)
      case first =>
       refine wp_region_keep (fun w' => w'.cell? ⟨w.heap.size, 2, none⟩ = some (.slice (some ⟨g, 0, none⟩) h.2.2.length c2) ∧ w'.cell? ⟨g, k * 3, none⟩ = some (.int .i64 ts) ∧ w'.cell? ⟨g, k * 3 + 1, none⟩ = some (.int .i64 tf) ∧ Below wv.heap.size wv w') [14] (by kernel_rfl) ?_
       have hB0 : Below (wv).heap.size (wv) (wv).drew := Below.drew (Below.refl _ _)
       obtain ⟨wd, hwd⟩ : ∃ q, (wv).drew = q := ⟨_, rfl⟩
       rw [hwd] at hB0 ⊢
       have HZ0 : RowKit.Hid (wd.heap.size = (wv).heap.size) := Lib.hid (by rw [← hwd]; rfl)
       clear hwd
       refine wfr 0 (v := ?_) rfl ?_ ?_
       rotate_left
       ·intro w' hw';go_simp;try with_reducible rfl
       try simp only [Act.put, sq]
       refine wtk 1 15 (v := ?_) rfl ?_ (HS.out _ hB0) ?_
       rotate_left
       ·intro w' hw';(try dsimp only at hw');go_simp;try with_reducible rfl
       try simp only [Act.put, sq]
       refine wfr 2 (v := ?_) rfl ?_ ?_
       rotate_left
       ·intro w' hw';go_simp;try with_reducible rfl
       try simp only [Act.put, sq]
       refine wfr 3 (v := ?_) rfl ?_ ?_
       rotate_left
       ·intro w' hw';go_simp;try with_reducible rfl
       try simp only [Act.put, sq]
       refine wfr 4 (v := ?_) rfl ?_ ?_
       rotate_left
       ·intro w' hw';go_simp;try with_reducible rfl
       try simp only [Act.put, sq]
       refine wtk 5 15 (v := ?_) rfl ?_ (HS.out _ hB0) ?_
       rotate_left
       ·intro w' hw';(try dsimp only at hw');go_simp;try with_reducible rfl
       try simp only [Act.put, sq]
       refine wfr 6 (v := ?_) rfl ?_ ?_
       rotate_left
       ·intro w' hw';go_simp;try with_reducible rfl
       try simp only [Act.put, sq]
       refine wtk 7 15 (v := ?_) rfl ?_ (HS.out _ hB0) ?_
       rotate_left
       ·intro w' hw';(try dsimp only at hw');go_simp;try with_reducible rfl
       try simp only [Act.put, sq]
       refine wfr 8 (v := ?_) rfl ?_ ?_
       rotate_left
       ·intro w' hw';go_simp;try with_reducible rfl
       try simp only [Act.put, sq]
       refine wfr 9 (v := ?_) rfl ?_ ?_
       rotate_left
       ·intro w' hw';go_simp;try with_reducible rfl
       try simp only [Act.put, sq]
       refine wfr 10 (v := ?_) rfl ?_ ?_
       rotate_left
       ·intro w' hw';go_simp;try with_reducible rfl
       try simp only [Act.put, sq]
       refine wtk 11 15 (v := ?_) rfl ?_ (HS.out _ hB0) ?_
       rotate_left
       ·intro w' hw';(try dsimp only at hw');go_simp;try with_reducible rfl
       try simp only [Act.put, sq]
       refine wfr 12 (v := ?_) rfl ?_ ?_
       rotate_left
       ·intro w' hw';go_simp;try with_reducible rfl
       try simp only [Act.put, sq]
       refine won 13 rfl fun K hK => ?_
       go_simp
       have hB13 := hB0.alloc hB0.size (.cells #[.int .i64 0, .int .i64 0, .slice none 0 0] 47)
       have hBl := Blk.new (wd) 47 [.int .i64 0, .int .i64 0, .slice none 0 0]
       have hb13 := (Below.refl (wd).heap.size (wd)).alloc (Nat.le_refl _) (.cells #[.int .i64 0, .int .i64 0, .slice none 0 0] 47)
       have hgB : (wd).heap.size < ((wd).alloc (.cells #[.int .i64 0, .int .i64 0, .slice none 0 0] 47)).heap.size := by simp
       have hge : (wv).heap.size ≤ (wd).heap.size := hB0.size
       have hgo : ∀ k, k < (wd).heap.size → ((wd).alloc (.cells #[.int .i64 0, .int .i64 0, .slice none 0 0] 47)).heap[k]? = (wd).heap[k]? := fun k hk => heap_kept _ _ hk
       refine hK.out _ _ (fun _ _ => HS.out _ hB13) ?_
       clear hK K
       try simp only [Act.put, sq]
       obtain ⟨w13, hw13⟩ : ∃ q, (wd).alloc (.cells #[.int .i64 0, .int .i64 0, .slice none 0 0] 47) = q := ⟨_, rfl⟩
       rw [hw13] at hB13 hb13 hBl hgB hgo
       try simp only [hw13]
       obtain ⟨gh, hgh⟩ : ∃ q, (wd).heap.size = q := ⟨_, rfl⟩
       rw [hgh] at hBl hgB hgo hge
       try simp only [hgh]
       have HBl := Lib.hid hBl
       clear hBl hw13
       refine won 14 rfl fun K hK => ?_
       have r0 := HBl.out.cell 0 rfl
       have r1 := HBl.out.cell 1 rfl
       have r2 := HBl.out.cell 2 rfl
       have f0 := HBl.out.frozen 0
       have f1 := HBl.out.frozen 1
       have f2 := HBl.out.frozen 2
       go_simp
       refine hK.out _ _ (fun h => absurd h (by decide)) ?_
       clear hK K
       try simp only [Act.put, sq]
       clear r0 r1 r2 f0 f1 f2
       refine wpAnyM_done (by kernel_rfl) ?_ _
       try simp only [Act.put, sq]
       go_wp2_with fail
       go_meet
       exact ⟨gh, rfl, ((HBl.out.set 0 (.int .i64 ts)).set 1 (.int .i64 tf)).set 2 (.slice none 0 0), hge, ((hB13.setCell hge _).setCell hge _).setCell hge _⟩
      case rest =>
       obtain ⟨q, rfl, hq, hqd, hbx⟩ := hcut
       obtain ⟨we, rfl⟩ : ∃ z, z = wc := ⟨_, rfl⟩
       have HQ := Lib.hid hq
       have HBx := Lib.hid hbx
       have hql : q < we.heap.size := hq.lt
       have hwe := hbx.size
       clear hq hbx HS
       go_wp2_with fail
       go_loopw [12] (fun i wr => ∃ (m : Nat) (vl : Value), m ≤ tl.length ∧ i = .int .i64 m ∧ Blk wr q 47 [.int .i64 ts, .int .i64 tf, vl] ∧ wr.ownsRow we.heap.size 51 4 vl (eraseL h (tl.take m)).length (opsCells (eraseL h (tl.take m))) ∧ Below wv.heap.size wv wr ∧ we.heap.size ≤ wr.heap.size) (fun i _ => tl.length - (RowKit.intOf i).toNat)
       case atStart => exact ⟨0, _, Nat.zero_le _, rfl, HQ.out, World.ownsRow_nil _ _ _ _, HBx.out, Nat.le_refl _⟩
       case round =>
        obtain ⟨m, vl, hm, rfl, hqr, hown, hbw, hsz⟩ := hrel
        have hb0 := below_next SD.out.b hbw
        have x2 := (SD.out.h.later hbw).cell 2 rfl
        have t3 := HA3.out _ hb0
        by_cases hm1 : m < tl.length
        ·obtain ⟨go, rfl, q1, q2, q3, q4⟩ := HO.out m hm1
         have q1 := cell_later hb0 q1
         have q2 := cell_later hb0 q2
         have q3 := cell_later hb0 q3
         have q4 := cell_later hb0 q4
         have hnx := eraseL_next h tl m hm1
         have hll2 := HIn.out m hm1
         have hok := HMM.out.op _ hll2
         have hel : (eraseL h (tl.take m)).length ≤ 1000 := by
          have := erase_len h (tl.take m)
          have e : (tl.take m).length ≤ tl.length := by rw [List.length_take]; omega
          omega
         obtain ⟨⟨ow, ok, od, on⟩, hoo⟩ : ∃ q, tl.getD m noOp = q := ⟨_, rfl⟩
         rw [hoo] at q1 q2 q3 q4 hok hnx
         dsimp only at q1 q2 q3 q4
         obtain ⟨I, hI⟩ : ∃ I, eraseL h (tl.take m) = I := ⟨_, rfl⟩
         rw [hI] at hown hnx hel
         have HNo := Lib.hid hnx
         have HOk := Lib.hid hok
         have HOw := Lib.hid hown
         have HQr := Lib.hid hqr
         have HBw := Lib.hid hbw
         clear hown hnx hok hll2 hoo hbw hb0 hI hqr
         by_cases hod : od = 2
         ·have HN2 : RowKit.Hid (eraseL h (tl.take (m + 1)) = I) := Lib.hid (by rw [HNo.out, if_pos (by simpa [lostO] using hod)])
          clear HNo
          go_wp2_with fail
          go_roundw
          case rel => exact ⟨m + 1, _, by omega, by go_num, HQr.out.alloc _, by rw [HN2.out]; exact HOw.out.alloc _, HBw.out.alloc HBw.out.size _, by simp; omega⟩
          case measure => simp [RowKit.intOf]; omega
         ·have hlo : lostO (ow, ok, od, on) = false := by simpa [lostO] using hod
          have hod2 : (od != 2) = true := by simpa using hod
          have HN2 : RowKit.Hid (eraseL h (tl.take (m + 1)) = I ++ [(ow, newK h ok, od, on)]) := Lib.hid (by rw [HNo.out, if_neg (by rw [hlo]; exact Bool.false_ne_true)]; rfl)
          have hr : 0 ≤ ok ∧ ok < h.2.1.length := by
           have h1 := HOk.out
           unfold okOp inside at h1
           simp at h1
           omega
          obtain ⟨b, rfl⟩ : ∃ b : Nat, ok = b := ⟨ok.toNat, by omega⟩
          have hbk : b < h.2.1.length := by omega
          obtain ⟨p9, c9, e9, hi9⟩ := HIx.out wr HBw.out
          injection e9 with e9 e10 e11
          subst e9 e11
          obtain ⟨gi, rfl, hc⟩ := hi9 b (by rw [toL_len]; exact hbk)
          rw [toL_at h _ b hbk] at hc
          have hgi : gi < wr.heap.size := World.block_lt_of_cell? wr ⟨gi, b, none⟩ hc
          obtain ⟨pl, cl, rfl⟩ := owns_form HOw.out
          have n2 := HQr.out.cell 2 rfl
          have n3 := HQr.out.frozen 2
          have hqw : q < wr.heap.size := HQr.out.lt
          have hbl : b < (toL h h.2.1.length).length := by rw [toL_len]; exact hbk
          clear HNo hlo
          go_upto_region 28 with fail
          go_wp2_with (at_builtin; refine wpList_append_own _ rfl _ _ 45 rfl we.heap.size 51 i3 (.agg #[.bool false, .int .i64 0, .int .i64 0, .int .i64 0]) 4 32 Tryz.underlying45 hi3 hy0 hy1 hy2 rfl (by decide) _ _ _ rfl ((HOw.out.alloc _).alloc _) ⟨wr.heap.size + 1, 0, none⟩ 1 1 [.bool ow, .int .i64 (newK h b), .int .i64 od, .int .i64 on] rfl rfl (news_lit _ _ _ _ (by simp)) (by intro u hu; simp at hu; rcases hu with rfl | rfl | rfl | rfl <;> rfl) (by unfold maxLen; omega) (by omega) (by simp; omega) ?_)
          intro v4 w4 hown4 hgrow hnil
          obtain ⟨g4, c4, rfl⟩ := owns_some hown4
          have hA4 := (HOw.out.alloc (.cells #[.bool ow, .int .i64 (newK h b), .int .i64 od, .int .i64 on] 51)).alloc (.cells #[.bool ow, .int .i64 (newK h b), .int .i64 od, .int .i64 on] 51)
          have hb4 : Below wv.heap.size wv w4 := ((HBw.out.alloc HBw.out.size (.cells #[.bool ow, .int .i64 (newK h b), .int .i64 od, .int .i64 on] 51)).alloc (by have := HBw.out.size; simp; omega) (.cells #[.bool ow, .int .i64 (newK h b), .int .i64 od, .int .i64 on] 51)).grown hgrow (by have := HBw.out.size; simp; omega) (fun k hk => by have := (hA4.lt k hk).1; omega)
          have hq4 := ((HQr.out.alloc (.cells #[.bool ow, .int .i64 (newK h b), .int .i64 od, .int .i64 on] 51)).alloc (.cells #[.bool ow, .int .i64 (newK h b), .int .i64 od, .int .i64 on] 51)).grown hA4 hql hgrow
          have e9 : opsCells (I ++ [(ow, newK h b, od, on)]) = opsCells I ++ [.bool ow, .int .i64 (newK h b), .int .i64 od, .int .i64 on] := by simp [opsCells, opCells]
          have HO4 : RowKit.Hid (w4.ownsRow we.heap.size 51 4 (.slice (some ⟨g4, 0, none⟩) (I.length + 1) c4) (eraseL h (tl.take (m + 1))).length (opsCells (eraseL h (tl.take (m + 1))))) := Lib.hid (by rw [HN2.out, List.length_append, e9]; exact hown4)
          have hs4 := hgrow.size
          simp only [World.size_alloc] at hs4
          have n4 := hq4.cell 2 rfl
          have n5 := hq4.frozen 2
          have HQ4 := Lib.hid hq4
          have HB4 := Lib.hid hb4
          clear hown4 hgrow hnil e9 hA4 hb4 hq4 n2 n3 hc hi9 q1 q2 q3 q4 x2 t3
          go_wp2_with fail
          go_roundw
          case rel => exact ⟨m + 1, _, by omega, by go_num, HQ4.out.set 2 _, owns_far HO4.out hql _, HB4.out.setCell hqd _, by simp only [World.setCell, Array.size_modify]; omega⟩
          case measure => simp [RowKit.intOf]; omega
        ·have hke : m = tl.length := by omega
         subst hke
         rw [List.take_length] at hown
         have hwx := HWS.out
         have HO8 : RowKit.Hid (wr.ownsRow M 51 4 vl (eraseL h tl).length (opsCells (eraseL h tl))) := Lib.hid (owns_base hown (by omega))
         obtain ⟨pl, cl, rfl⟩ := owns_form hown
         have n0 := hqr.cell 0 rfl
         have n1 := hqr.cell 1 rfl
         have n2 := hqr.cell 2 rfl
         have o2 := (SD.out.g.later hbw).cell 2 rfl
         have hg3 : G < wr.heap.size := by omega
         have hel : (eraseL h tl).length ≤ 1000 := Nat.le_trans (erase_len h tl) htl
         have HBw := Lib.hid hbw
         clear hown hqr hbw hb0
         go_upto_region 29 with fail
         go_wp2_with (at_builtin; refine wpList_append_own _ rfl _ _ 23 rfl M 47 i4 (.agg #[.int .i64 0, .int .i64 0, .slice none 0 0]) 3 40 Tryz.underlying23 hi4 hw0 hw1' hw2' rfl (by decide) vt LV.length (txnsCells LV) rfl ((owns_later SD.out.t HBw.out).alloc _) ⟨wr.heap.size, 0, none⟩ 1 1 [.int .i64 ts, .int .i64 tf, .slice pl (eraseL h tl).length cl] rfl rfl (news_lit _ _ _ _ (by simp)) (by intro u hu; simp at hu; rcases hu with rfl | rfl | rfl <;> rfl) (by have := HLl.out; unfold maxLen; omega) (by have := HLl.out; omega) (by simp; omega) ?_)
         intro v6 w6 hown6 hgrow6 hnil6
         rw [HLl.out] at hown6
         obtain ⟨g6, c6, rfl⟩ := owns_some hown6
         have st6 := rawT_next SD.out HBw.out HO8.out HLl.out hown6 hgrow6
         have o6 := (SD.out.g.later (HBw.out.alloc HBw.out.size (.cells #[.int .i64 ts, .int .i64 tf, .slice pl (eraseL h tl).length cl] 47))).grown ((owns_later SD.out.t HBw.out).alloc _) hwx.2.1 hgrow6
         have q7 := o6.cell 2 rfl
         have q8 := o6.frozen 2
         have S6 := Lib.hid st6
         clear hown6 hgrow6 hnil6 st6 o6 o2 n0 n1 n2
         go_wp2_with fail
         go_roundw
         case rel => exact ⟨k + 1, _, _, by omega, by go_num, by rw [HNx.out, List.map_append, HLV.out]; rfl, S6.out⟩
         case measure => simp [RowKit.intOf]; omega
     ·have hke : k = h.2.2.length := by omega
      subst hke
      rw [List.take_length] at hLV
      have hen := rawT_end st hLV
      obtain ⟨ps, cs, rfl⟩ := owns_form st.s
      obtain ⟨pk, ck, rfl⟩ := owns_form st.k
      obtain ⟨pt, ct, rfl⟩ := owns_form st.t
      have e0 := st.g.cell 0 rfl
      have e1 := st.g.cell 1 rfl
      have e2 := st.g.cell 2 rfl
      have y0 := st.r.cell 0 rfl
      have y1 := st.r.cell 1 rfl
      have y2 := st.r.cell 2 rfl
      have g0 := st.r.frozen 0
      have g1 := st.r.frozen 1
      have g2 := st.r.frozen 2
      have HEn := Lib.hid hen
      clear hen st hLV
      go_wp2_with fail
      refine bodyPost_ret (results_cell Tryz.results79 _ _ _ _ _ rfl (load_hist HEn.out.1)) rfl ?_
      exact ⟨_, rfl, HEn.out.2.1, HEn.out.2.2⟩
end Go.Proofs.YtmgchjddpmmglaaGreatDoor
