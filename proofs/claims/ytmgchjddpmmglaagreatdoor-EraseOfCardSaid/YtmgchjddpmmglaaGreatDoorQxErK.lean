/-
  Layer 14 (erase), the program: what is a lost read; the keys that are still there, and their new numbers. No conditions.
-/
import Derived.Test.YtmgchjddpmmglaaGreatDoorQxErP
import Derived.Test.YtmgchjddpmmglaaGreatDoorQxInP
import Derived.Test.YtmgchjddpmmglaaGreatDoorQxIMap
namespace Go.Proofs.YtmgchjddpmmglaaGreatDoor
open Go.RowKit Go.Lib
def cntU (L : List OpM) (j : Int) : Int := ((L.filter fun o => !lostO o && o.2.1 == j).length : Int)
theorem cntU_snoc (L : List OpM) (o : OpM) (j : Int) : cntU (L ++ [o]) j = if !lostO o && o.2.1 == j then cntU L j + 1 else cntU L j := by
 unfold cntU
 rw [List.filter_append, List.length_append, List.filter_cons]
 split <;> simp
theorem cntU_le (L : List OpM) (j : Int) : 0 ≤ cntU L j ∧ cntU L j ≤ L.length := by
 unfold cntU
 have := List.length_filter_le (fun o : OpM => !lostO o && o.2.1 == j) L
 omega
theorem cntU_used (h : HistM) (k : Nat) : decide (0 < cntU (allOps h) (k : Int)) = usedK h k := by
 unfold cntU usedK
 rw [Bool.eq_iff_iff, decide_eq_true_iff, List.any_eq_true]
 constructor
 ·intro h0
  obtain ⟨o, ho⟩ := List.exists_mem_of_length_pos (show 0 < ((allOps h).filter fun o => !lostO o && o.2.1 == (k : Int)).length by omega)
  exact ⟨o, (List.mem_filter.1 ho).1, (List.mem_filter.1 ho).2⟩
 ·rintro ⟨o, h1, h2⟩
  have := List.length_pos_of_mem (List.mem_filter.2 ⟨h1, h2⟩ : o ∈ (allOps h).filter fun o => !lostO o && o.2.1 == (k : Int))
  omega
def opsTo (h : HistM) (i : Nat) : List OpM := (h.2.2.take i).flatMap (·.2.2)
theorem opsTo_next (h : HistM) (i : Nat) (hi : i < h.2.2.length) : opsTo h (i + 1) = opsTo h i ++ (h.2.2.getD i noTxn).2.2 := by
 unfold opsTo
 rw [List.take_succ_eq_append_getElem hi, List.flatMap_append]
 simp [hi]
theorem opsTo_all (h : HistM) : opsTo h h.2.2.length = allOps h := by
 unfold opsTo allOps
 rw [List.take_length]
theorem opsTo_len {h : HistM} (hm : Modst h) : ∀ i, i ≤ h.2.2.length → (opsTo h i).length ≤ 1000 * i := by
 intro i
 induction i with
 | zero => intro _; exact Nat.zero_le _
 | succ i ih =>
  intro hi
  rw [opsTo_next h i hi, List.length_append]
  have h1 := ih (by omega)
  have h2 : (h.2.2.getD i noTxn).2.2.length ≤ 1000 := by
   have e : h.2.2.getD i noTxn = h.2.2[i] := by simp [show i < h.2.2.length from hi]
   rw [e]
   exact hm.2.2.2.2.2 _ (List.getElem_mem hi)
  omega
def toF (h : HistM) (k : Nat) (j : Int) : Int := if 0 ≤ j ∧ j < (k : Int) ∧ usedK h j.toNat = true then newK h j else 0
theorem toF_yes (h : HistM) (k : Nat) (hu : usedK h k = true) : (fun j => if j = (k : Int) then ((keptK h k).length : Int) else toF h k j) = toF h (k + 1) := by
 funext j
 unfold toF
 by_cases e : j = (k : Int)
 ·subst e
  rw [if_pos rfl, if_pos ⟨by omega, by omega, by simpa using hu⟩, kept_len]
  rfl
 ·rw [if_neg e]
  by_cases hc : 0 ≤ j ∧ j < (k : Int) ∧ usedK h j.toNat = true
  ·rw [if_pos hc, if_pos ⟨hc.1, by omega, hc.2.2⟩]
  ·rw [if_neg hc, if_neg (fun ⟨a, b, c⟩ => hc ⟨a, by omega, c⟩)]
theorem toF_no (h : HistM) (k : Nat) (hu : usedK h k = false) : toF h k = toF h (k + 1) := by
 funext j
 unfold toF
 by_cases hc : 0 ≤ j ∧ j < (k : Int) ∧ usedK h j.toNat = true
 ·rw [if_pos hc, if_pos ⟨hc.1, by omega, hc.2.2⟩]
 ·rw [if_neg hc, if_neg (fun ⟨a, b, c⟩ => by
   by_cases e : j = (k : Int)
   ·subst e
    rw [Int.toNat_natCast, hu] at c
    cases c
   ·exact hc ⟨a, by omega, c⟩)]
theorem toF_nil (h : HistM) : toF h 0 = fun _ => 0 := by
 funext j
 unfold toF
 rw [if_neg (by omega)]
set_option maxRecDepth 100000 in
set_option maxHeartbeats 1000000 in
theorem lost14_any (o : OpM) (w : World) :
  Calls Tryz.prog 78 #[.agg #[.bool o.1, .int .i64 o.2.1, .int .i64 o.2.2.1, .int .i64 o.2.2.2]] w fun e w' => e = .returned (.bool (lostO o)) ∧ Below w.heap.size w w' := by
 go_enter Tryz.func78, Tryz.ntmps78
 go_wp2
 go_ret
 exact ⟨by first | rfl | simp [lostO] | (unfold lostO; rw [Bool.beq_eq_decide_eq]), by go_grown⟩
set_option maxRecDepth 100000 in
set_option maxHeartbeats 4000000 in
theorem kept14_any {w : World} {v : Value} {h : HistM} (hv : HistV w v h) (hm : Modst h) (hmm : mayH h = true) :
  Calls Tryz.prog 77 #[v] w fun e w' => ∃ lv b n, e = .returned (.tuple #[lv, .map (some b)]) ∧ w'.ownsRow w.heap.size 9 1 lv (keptK h h.2.1.length).length (strs (keptK h h.2.1.length)) ∧ IMap w' b n (toF h h.2.1.length) ∧ w.heap.size ≤ b ∧ Below w.heap.size w w' := by
 obtain ⟨v0, v1, v2, rfl, ⟨p0, c0, rfl, -⟩, ⟨p1, c1, rfl, k1⟩, ⟨p2, c2, rfl, k2⟩⟩ := hv
 have HK := Lib.hid k1
 have HX := Lib.hid k2
 have HMod := Lib.hid hm
 have HMay := Lib.hid ((mayH_iff h).1 hmm)
 have m2 : h.2.1.length ≤ 1000 := hm.2.1
 have m3 : h.2.2.length ≤ 1000 := hm.2.2.1
 obtain ⟨i0, hi, hz0, hz1, hz2⟩ := info_parts info_str
 clear k1 k2 hm hmm
 have hal := ((Below.refl w.heap.size w).alloc (Nat.le_refl _) (.cells #[.slice p0 h.1.length c0, .slice p1 h.2.1.length c1, .slice p2 h.2.2.length c2] 25)).alloc (by simp) (.map #[] 0)
 have hbx := (Blk.new w 25 [.slice p0 h.1.length c0, .slice p1 h.2.1.length c1, .slice p2 h.2.2.length c2]).alloc (.map #[] 0)
 have him := imap_new (w.alloc (.cells #[.slice p0 h.1.length c0, .slice p1 h.2.1.length c1, .slice p2 h.2.2.length c2] 25))
 have hsz : w.heap.size + 1 + 1 ≤ ((w.alloc (.cells #[.slice p0 h.1.length c0, .slice p1 h.2.1.length c1, .slice p2 h.2.2.length c2] 25)).alloc (.map #[] 0)).heap.size := by simp
 simp only [World.size_alloc] at him
 have HAL := Lib.hid hal
 have HBX := Lib.hid hbx
 have HIM := Lib.hid him
 have HSz := Lib.hid hsz
 clear hal hbx him hsz
 have hmk := @run_makeMap Tryz.prog
 go_enter Tryz.func77, Tryz.ntmps77
 go_wp2_with fail
 obtain ⟨W0, hW0⟩ : ∃ q, (w.alloc (.cells #[.slice p0 h.1.length c0, .slice p1 h.2.1.length c1, .slice p2 h.2.2.length c2] 25)).alloc (.map #[] 0) = q := ⟨_, rfl⟩
 rw [hW0] at HAL HBX HIM HSz ⊢
 clear hW0
 have HBo : RowKit.Hid (∀ wr, Below (w.heap.size + 1) W0 wr → Below w.heap.size w wr) := Lib.hid (fun wr hb => HAL.out.trans (hb.mono (by omega)))
 go_loopw [17] (fun i wr => ∃ k n : Nat, k ≤ h.2.2.length ∧ i = .int .i64 k ∧ n ≤ (opsTo h k).length ∧ IMap wr (w.heap.size + 1) n (cntU (opsTo h k)) ∧ Below (w.heap.size + 1) W0 wr) (fun i _ => h.2.2.length - (RowKit.intOf i).toNat)
 case atStart => exact ⟨0, 0, Nat.zero_le _, rfl, Nat.zero_le _, HIM.out, Below.refl _ _⟩
 case round =>
  obtain ⟨k, n, hk, rfl, hn, hmap, hbw⟩ := hrel
  by_cases hk1 : k < h.2.2.length
  ·have hb0 := HBo.out _ hbw
   obtain ⟨g, sv, rfl, a1, a2, a3, a4⟩ := HX.out k hk1
   have htl : (h.2.2.getD k noTxn).2.2.length ≤ 1000 := by
    have e : h.2.2.getD k noTxn = h.2.2[k] := by simp [hk1]
    rw [e]
    exact HMod.out.2.2.2.2.2 _ (List.getElem_mem hk1)
   have a1 := cell_later hb0 a1
   have a2 := cell_later hb0 a2
   have a3 := cell_later hb0 a3
   have hnx := opsTo_next h k hk1
   have hol := opsTo_len HMod.out k hk
   have hin : ∀ m, m < (h.2.2.getD k noTxn).2.2.length → (h.2.2.getD k noTxn).2.2.getD m noOp ∈ allOps h := fun m hm => by
    have e : h.2.2.getD k noTxn = h.2.2[k] := by simp [hk1]
    rw [e] at hm ⊢
    refine List.mem_flatMap.2 ⟨_, List.getElem_mem hk1, ?_⟩
    rw [show h.2.2[k].2.2.getD m noOp = h.2.2[k].2.2[m] by simp [hm]]
    exact List.getElem_mem hm
   obtain ⟨A, hA⟩ : ∃ A, opsTo h k = A := ⟨_, rfl⟩
   rw [hA] at hn hmap hnx hol
   obtain ⟨⟨ts, tf, tl⟩, htt⟩ : ∃ q, h.2.2.getD k noTxn = q := ⟨_, rfl⟩
   rw [htt] at a1 a2 a4 htl hnx hin
   dsimp only at a1 a2 a4 htl hnx hin
   obtain ⟨p3, c3, rfl, -, hops⟩ := a4
   have HO := Lib.hid hops
   have HNx := Lib.hid hnx
   have HIn := Lib.hid hin
   have HBW := Lib.hid (hbw.alloc (by have := hbw.size; have := HSz.out; omega) (.cells #[.int .i64 ts, .int .i64 tf, .slice p3 tl.length c3] 47))
   have HMp := Lib.hid (hmap.alloc (.cells #[.int .i64 ts, .int .i64 tf, .slice p3 tl.length c3] 47))
   have HB0 := Lib.hid (fun w' (hb : Below (w.heap.size + 1) W0 w') => HBo.out _ hb)
   have HSr : RowKit.Hid (w.heap.size + 1 + 1 ≤ wr.heap.size) := Lib.hid (by have := hbw.size; have := HSz.out; omega)
   clear hops hnx hin htt hA hbw hb0 hmap
   go_wp2_with fail
   obtain ⟨wt, hwt⟩ : ∃ q, wr.alloc (.cells #[.int .i64 ts, .int .i64 tf, .slice p3 tl.length c3] 47) = q := ⟨_, rfl⟩
   rw [hwt] at HBW HMp ⊢
   have hst : RowKit.Hid (w.heap.size + 1 + 1 ≤ wt.heap.size) := Lib.hid (by rw [← hwt]; simp; have := HSr.out; omega)
   clear hwt a1 a2 a3
   go_loopw [24] (fun i wr => ∃ m n : Nat, m ≤ tl.length ∧ i = .int .i64 m ∧ n ≤ (A ++ tl.take m).length ∧ IMap wr (w.heap.size + 1) n (cntU (A ++ tl.take m)) ∧ Below (w.heap.size + 1) W0 wr) (fun i _ => tl.length - (RowKit.intOf i).toNat)
   case atStart => exact ⟨0, n, Nat.zero_le _, rfl, by simpa using hn, by simpa using HMp.out, HBW.out⟩
   case round =>
    obtain ⟨m, n2, hm, rfl, hn2, hmap, hbw⟩ := hrel
    by_cases hm1 : m < tl.length
    ·have hb0 := HBo.out _ hbw
     obtain ⟨go, rfl, q1, q2, q3, q4⟩ := HO.out m hm1
     have q1 := cell_later hb0 q1
     have q2 := cell_later hb0 q2
     have q3 := cell_later hb0 q3
     have q4 := cell_later hb0 q4
     have hok := HMay.out.op _ (HIn.out m hm1)
     have hsn := take_snoc tl m hm1
     have hlen : (A ++ tl.take m).length ≤ 1001000 := by rw [List.length_append, List.length_take]; omega
     have hll := HIn.out m hm1
     obtain ⟨⟨ow, ok, od, on⟩, hoo⟩ : ∃ q, tl.getD m noOp = q := ⟨_, rfl⟩
     rw [hoo] at q1 q2 q3 q4 hok hsn
     dsimp only at q1 q2 q3 q4
     have hcs := fun j => cntU_snoc (A ++ tl.take m) (ow, ok, od, on) j
     rw [List.append_assoc, ← hsn] at hcs
     have hcl := cntU_le (A ++ tl.take m) ok
     have hls : (A ++ tl.take (m + 1)).length = (A ++ tl.take m).length + 1 := by rw [hsn, ← List.append_assoc, List.length_append, List.length_singleton]
     obtain ⟨M, hM⟩ : ∃ M, A ++ tl.take m = M := ⟨_, rfl⟩
     rw [hM] at hn2 hmap hcs hcl hlen hls
     have HCs := Lib.hid hcs
     have HOk := Lib.hid hok
     have hal := hbw.alloc (by have := hbw.size; have := HSz.out; omega) (.cells #[.bool ow, .int .i64 ok, .int .i64 od, .int .i64 on] 51)
     have HMp2 := Lib.hid (hmap.alloc (.cells #[.bool ow, .int .i64 ok, .int .i64 od, .int .i64 on] 51))
     have HOb := Lib.hid (Blk.new wr 51 [.bool ow, .int .i64 ok, .int .i64 od, .int .i64 on])
     have HAl2 := Lib.hid hal
     have hsr : w.heap.size + 1 + 1 ≤ wr.heap.size := by have := hbw.size; have := HSz.out; omega
     have HSr2 := Lib.hid hsr
     clear hcs hok hal hsn hoo hM hmap hbw hb0 hll hsr
     go_wp2_with fail
     refine (lost14_any (ow, ok, od, on) _).mono ?_
     rintro e w5 ⟨rfl, hb5⟩
     have HM5 := Lib.hid (HMp2.out.later hb5)
     have HB5 := Lib.hid (HAl2.out.trans (hb5.mono (by have := HAl2.out.size; have := HSz.out; omega)))
     have b1 := (HOb.out.later hb5).cell 1 rfl
     clear hb5 HMp2 HAl2 HOb q1 q2 q3 q4
     cases hlo : lostO (ow, ok, od, on) with
     | true =>
      have HSm : RowKit.Hid (cntU (A ++ tl.take (m + 1)) = cntU M) := Lib.hid (by funext j; rw [HCs.out, hlo]; rfl)
      clear HCs hlo
      go_wp2_with fail
      go_roundw
      case rel => exact ⟨m + 1, n2, by omega, by go_num, by omega, by rw [HSm.out]; exact HM5.out, HB5.out⟩
      case measure => simp [RowKit.intOf]; omega
     | false =>
      have HSm : RowKit.Hid (cntU (A ++ tl.take (m + 1)) = fun j => if j = ok then cntU M ok + 1 else cntU M j) := Lib.hid (by
       funext j
       rw [HCs.out, hlo]
       by_cases e : j = ok
       ·subst e; simp
       ·rw [if_neg e, if_neg (by simp; exact fun h => e h.symm)])
      have hr : 0 ≤ ok ∧ ok ≤ 1000 := by
       have h1 := HOk.out
       unfold okOp inside at h1
       simp at h1
       omega
      have e4 := imap_look HM5.out ok (by omega) (by omega)
      obtain ⟨w6, e6, hm6, ht6⟩ := imap_put HM5.out (by unfold maxLen; omega) ok (cntU M ok + 1) (by omega) (by omega) (by omega) (by omega)
      have HM6 := Lib.hid hm6
      have HB6 := Lib.hid (below_turn HB5.out ht6 (Nat.le_refl _))
      clear hm6 ht6 HCs hlo
      go_wp2_with fail
      go_roundw
      case rel => exact ⟨m + 1, n2 + 1, by omega, by go_num, by omega, by rw [HSm.out]; exact HM6.out, HB6.out⟩
      case measure => simp [RowKit.intOf]; omega
    ·have hke : m = tl.length := by omega
     subst hke
     rw [List.take_length] at hn2 hmap
     have HMp3 := Lib.hid hmap
     have HB3 := Lib.hid hbw
     clear hmap hbw
     go_wp2_with fail
     go_roundw
     case rel => exact ⟨k + 1, n2, by omega, by go_num, by rw [HNx.out]; exact hn2, by rw [HNx.out]; exact HMp3.out, HB3.out⟩
     case measure => simp [RowKit.intOf]; omega
  ·have hke : k = h.2.2.length := by omega
   subst hke
   rw [opsTo_all] at hn hmap
   have HMp := Lib.hid hmap
   have hbx2 := HBX.out.below hbw (by omega)
   have z1 := hbx2.cell 1 rfl
   have HB2 := Lib.hid hbw
   have hgs : w.heap.size + 1 + 1 ≤ wr.heap.size := by have := hbw.size; have := HSz.out; omega
   have HGs := Lib.hid hgs
   have HM2 := Lib.hid (imap_new wr)
   have HMu := Lib.hid (hmap.alloc (.map #[] 0))
   have HB3 := Lib.hid (hbw.alloc (by omega) (.map #[] 0))
   have HUs := Lib.hid (cntU_used h)
   have HCu := Lib.hid (cntU_le (allOps h))
   clear hmap hbx2 hbw hn
   have hzl : w.heap.size < wr.heap.size := by omega
   clear hgs
   go_wp2_with fail
   obtain ⟨gt, hgt⟩ : ∃ q, wr.heap.size = q := ⟨_, rfl⟩
   obtain ⟨wz, hwz⟩ : ∃ q, wr.alloc (.map #[] 0) = q := ⟨_, rfl⟩
   have HGt : RowKit.Hid (gt < wz.heap.size) := Lib.hid (by rw [← hwz, ← hgt]; simp)
   rw [hwz, hgt] at HM2
   rw [hwz] at HMu HB3
   rw [hgt] at HGs
   simp only [hwz, hgt]
   clear hwz hgt z1 hzl
   go_loopw [9, 42] (fun l i wr => ∃ k n : Nat, k ≤ h.2.1.length ∧ i = .int .i64 k ∧ n ≤ k ∧ wr.ownsRow (w.heap.size + 1 + 1) 9 1 l (keptK h k).length (strs (keptK h k)) ∧ IMap wr gt n (toF h k) ∧ (∃ nu, IMap wr (w.heap.size + 1) nu (cntU (allOps h))) ∧ Below (w.heap.size + 1) W0 wr) (fun _ i _ => h.2.1.length - (RowKit.intOf i).toNat)
   case atStart => exact ⟨0, 0, Nat.zero_le _, rfl, Nat.le_refl _, World.ownsRow_nil _ _ _ _, by rw [toF_nil]; exact HM2.out, ⟨_, HMu.out⟩, HB3.out⟩
   case round =>
    obtain ⟨k, n2, hk, rfl, hn2, hown, hmap, ⟨nu, hmu⟩, hbw⟩ := hrel
    by_cases hk1 : k < h.2.1.length
    ·obtain ⟨gk, rfl, t1⟩ := HK.out k hk1
     have t1 := cell_later (HBo.out _ hbw) t1
     have hu0 := imap_look hmu (k : Int) (by omega) (by omega)
     have hkl : (keptK h k).length ≤ k := by rw [kept_len]; exact stay_le h k
     have hnx := kept_next h k
     have hcu := HCu.out (k : Int)
     have hus := HUs.out k
     obtain ⟨c, hc⟩ : ∃ c, cntU (allOps h) (k : Int) = c := ⟨_, rfl⟩
     rw [hc] at hu0 hcu hus
     have HMu2 := Lib.hid hmu
     have HMp2 := Lib.hid hmap
     have HOw := Lib.hid hown
     have HBw := Lib.hid hbw
     have HNx := Lib.hid hnx
     have hsz2 : w.heap.size + 1 + 1 ≤ wr.heap.size := by have := hbw.size; have := HSz.out; omega
     obtain ⟨K, hK⟩ : ∃ K, keptK h k = K := ⟨_, rfl⟩
     rw [hK] at hkl HOw HNx
     obtain ⟨s, hs⟩ : ∃ s, h.2.1.getD k [] = s := ⟨_, rfl⟩
     rw [hs] at t1 HNx
     clear hmu hmap hown hbw hnx hs
     cases hu : usedK h k with
     | false =>
      have hle : decide (0 < c) = false := by rw [hus, hu]
      have hle2 : ¬ 0 < c := by simpa using hle
      have HN2 := Lib.hid (HNx.out)
      have HN3 : RowKit.Hid (keptK h (k + 1) = K) := Lib.hid (by rw [HN2.out, if_neg (by rw [hu]; exact Bool.false_ne_true)])
      have HTo := Lib.hid (toF_no h k hu)
      clear HNx HN2 hus hu hK
      go_wp2_with fail
      go_roundw
      case rel => exact ⟨k + 1, n2, by omega, by go_num, by omega, by rw [HN3.out]; exact HOw.out, by rw [← HTo.out]; exact HMp2.out, ⟨_, HMu2.out⟩, HBw.out⟩
      case measure => simp [RowKit.intOf]; omega
     | true =>
      have hle : decide (0 < c) = true := by rw [hus, hu]
      have hle2 : 0 < c := by simpa using hle
      have HN3 : RowKit.Hid (keptK h (k + 1) = K ++ [s]) := Lib.hid (by rw [HNx.out, if_pos hu])
      have HTo := Lib.hid (toF_yes h k hu)
      rw [hK] at HTo
      clear HNx hus hu hK
      obtain ⟨w6, e6, hm6, ht6⟩ := imap_put HMp2.out (by unfold maxLen; omega) (k : Int) (K.length : Int) (by omega) (by omega) (by omega) (by omega)
      have HM6 := Lib.hid hm6
      have HB6 := Lib.hid (below_turn HBw.out ht6 (by have := HGs.out; omega))
      have HU6 := Lib.hid (HMu2.out.turn ht6 (by have := HGs.out; omega))
      have HO6 := Lib.hid (owns_turn HOw.out ht6)
      have hs6 : wr.heap.size ≤ w6.heap.size := ht6.grown.size
      clear hm6 ht6 HMp2 HMu2 HOw
      obtain ⟨pl, cl, hlv⟩ := owns_form HO6.out
      subst hlv
      go_wp2_with (at_builtin; refine wpList_append_own _ rfl _ _ 22 rfl (w.heap.size + 1 + 1) 9 i0 (.string ByteArray.empty) 1 16 Tryz.underlying22 hi hz0 hz1 hz2 rfl (by decide) _ _ _ rfl (HO6.out.alloc _) ⟨w6.heap.size, 0, none⟩ 1 1 [.string (bs s)] rfl rfl (news_txt _ _ _) (ones_txt _) (by unfold maxLen; omega) (by omega) (by simp; omega) ?_)
      intro v4 w4 hown4 hgrow hnil
      have hb4 : Below (w.heap.size + 1) W0 w4 := (HB6.out.alloc (by have := HB6.out.size; have := HSz.out; omega) _).grown hgrow (by simp; omega) (fun k hk => by have := (HO6.out.lt k hk).1; omega)
      have HO4 : RowKit.Hid (w4.ownsRow (w.heap.size + 1 + 1) 9 1 v4 (keptK h (k + 1)).length (strs (keptK h (k + 1)))) := Lib.hid (by rw [HN3.out, ← strs_snoc, List.length_append]; exact hown4)
      have HM4 := Lib.hid ((HM6.out.alloc (.cells #[.string (bs s)] 9)).kept hgrow (fun e => (HM6.out.alloc (.cells #[.string (bs s)] 9)).row (HO6.out.alloc (.cells #[.string (bs s)] 9)) e.symm))
      have HU4 := Lib.hid ((HU6.out.alloc (.cells #[.string (bs s)] 9)).kept hgrow (fun e => (HU6.out.alloc (.cells #[.string (bs s)] 9)).row (HO6.out.alloc (.cells #[.string (bs s)] 9)) e.symm))
      clear hown4 hgrow hnil
      go_wp2_with fail
      go_roundw
      case rel => exact ⟨k + 1, n2 + 1, by omega, by go_num, by omega, HO4.out, by rw [← HTo.out]; exact HM4.out, ⟨_, HU4.out⟩, hb4⟩
      case measure => simp [RowKit.intOf]; omega
    ·have hke : k = h.2.1.length := by omega
     subst hke
     have HOn := Lib.hid (owns_base hown (show w.heap.size ≤ w.heap.size + 1 + 1 by omega))
     have HMn := Lib.hid hmap
     have HBn := Lib.hid (HBo.out _ hbw)
     clear hown hmap hbw hmu
     go_wp2_with fail
     go_ret2
     exact ⟨_, _, _, rfl, HOn.out, HMn.out, by have := HGs.out; omega, HBn.out⟩
end Go.Proofs.YtmgchjddpmmglaaGreatDoor
