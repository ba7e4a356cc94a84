/-
  Layer 12 (show): a history's events, walked. Conditions: unicode/utf8's two tables hold what their initialisers lay; a history of moderate size.
-/
import Derived.Test.YtmgchjddpmmglaaGreatDoorQAm
import Derived.Test.YtmgchjddpmmglaaGreatDoorQxHistVa
import Derived.Deep.CutBlock
namespace Go.Proofs.YtmgchjddpmmglaaGreatDoor
open Go.RowKit Go.Lib
structure EvSt (w wr : World) (v0 v1 v2 : Value) (b1 gl : Nat) (vl : Value) (A : List EventM) : Prop where
 hb : Blk wr b1 25 [v0, v1, v2]
 lb : Blk wr gl 82 [vl]
 row : wr.ownsRow w.heap.size 123 6 vl (lined A 0).length (evcs (lined A 0))
 base : w.heap.size ≤ gl
 bel : Below w.heap.size w wr
theorem EvSt.below {w wr w' : World} {v0 v1 v2 : Value} {b1 gl : Nat} {vl : Value} {A : List EventM} (h : EvSt w wr v0 v1 v2 b1 gl vl A) (hb : Below wr.heap.size wr w') : EvSt w w' v0 v1 v2 b1 gl vl A :=
 ⟨h.hb.later hb, h.lb.later hb, owns_later h.row hb, h.base, below_next h.bel hb⟩
theorem lined_end (A : List EventM) (x : EventM) : lined (A ++ [x]) 0 = lined A 0 ++ [onLine x ((A.length + 1 : Nat) : Int)] := by
 rw [sh_lined_app, Nat.zero_add]
 rfl
def kindV (b : Bool) : Int := if b then 3 else 2
theorem kind12_any (b : Bool) (k d n : Int) (w : World) :
  Calls Tryz.prog 169 #[.agg #[.bool b, .int .i64 k, .int .i64 d, .int .i64 n]] w fun e w' => e = .returned (.int .i64 (kindV b)) ∧ Below w.heap.size w w' := by
 cases b
 all_goals
  go_enter Tryz.func169, Tryz.ntmps169
  go_wp2
  go_ret
  exact ⟨rfl, by go_grown⟩
theorem fate12_any (f : Int) (h1 : 1 ≤ f) (h3 : f ≤ 3) (w : World) :
  Calls Tryz.prog 170 #[.int .i64 f] w fun e w' => e = .returned (.int .i64 (3 + f)) ∧ Below w.heap.size w w' := by
 rcases (by omega : f = 1 ∨ f = 2 ∨ f = 3) with rfl | rfl | rfl
 all_goals
  go_enter Tryz.func170, Tryz.ntmps170
  go_wp2
  go_ret
  exact ⟨rfl, by go_grown⟩
set_option maxRecDepth 100000 in
set_option maxHeartbeats 2000000 in
theorem add12_any {w wr : World} {v0 v1 v2 vl : Value} {b1 gl : Nat} {A : List EventM} (x : EventM) (hs : EvSt w wr v0 v1 v2 b1 gl vl A) (hA : A.length ≤ 100000) :
  Calls Tryz.prog 168 #[evV x, .pointer (some ⟨gl, 0, none⟩)] wr fun e w' => e = .returned (.tuple #[]) ∧ ∃ vl', EvSt w w' v0 v1 v2 b1 gl vl' (A ++ [x]) ∧ (∀ k t cs, Blk wr k t cs → t ≠ 123 → k ≠ gl → Blk w' k t cs) ∧ wr.heap.size ≤ w'.heap.size := by
 have HS := Lib.hid hs
 have hlen := sh_lined_len A 0
 obtain ⟨pl, cl, rfl⟩ := owns_form hs.row
 have l0 := hs.lb.cell 0 rfl
 have hglt := hs.lb.lt
 have HN := Lib.hid (lined_end A x)
 obtain ⟨i0, hi, hz0, hz1, hz2⟩ := info_parts info_ev
 have hwr := hs.bel.size
 obtain ⟨x1, x2, x3, x4, x5, x6⟩ := x
 unfold evV
 dsimp only at HN ⊢
 clear hs
 obtain ⟨M, hM⟩ : ∃ M, lined A 0 = M := ⟨_, rfl⟩
 rw [hM] at hlen l0 HN
 have HM := Lib.hid hM
 have hA2 : M.length ≤ 100000 := by omega
 have HLen := Lib.hid hlen
 clear hlen hM
 have HRow : RowKit.Hid (wr.ownsRow w.heap.size 123 6 (.slice pl M.length cl) M.length (evcs M)) := Lib.hid (by have h := HS.out.row; rw [HM.out] at h; exact h)
 go_enter Tryz.func168, Tryz.ntmps168
 go_wp2_with (at_builtin; refine wpList_append_own _ rfl (.tmp 7) (.tmp 9) 82 rfl w.heap.size 123 i0 (.agg #[.int .i64 0, .string ByteArray.empty, .string ByteArray.empty, .int .i64 0, .int .i64 0, .int .i64 0]) 6 64 Tryz.underlying82 hi hz0 hz1 hz2 rfl (by decide) _ M.length (evcs M) rfl ((HRow.out.alloc _).alloc _) ⟨wr.heap.size + 1, 0, none⟩ 1 1 [.int .i64 x1, .string (bs x2), .string (bs x3), .int .i64 x4, .int .i64 x5, .int .i64 ((M.length : Int) + 1)] rfl rfl (news_lit _ _ _ _ (by simp)) (ones_ev _ _ _ _ _ _) (by unfold maxLen; omega) (by omega) (by simp; omega) ?_)
 intro v4 w4 hown4 hgrow hnil
 have hne : ∀ k t cs, Blk wr k t cs → t ≠ 123 → some k ≠ (Value.slice pl M.length cl).ownBlock := fun k t cs hk ht e => (hk.ty.ne (owns_ty HRow.out e.symm) ht) rfl
 have hkeep : ∀ k t cs, Blk wr k t cs → t ≠ 123 → Blk w4 k t cs := fun k t cs hk ht => ((hk.alloc _).alloc _).kept hgrow (hne k t cs hk ht)
 have hlb4 := hkeep gl _ _ HS.out.lb (by decide)
 have hb4 : Below w.heap.size w w4 := ((HS.out.bel.alloc hwr _).alloc (by simp; omega) _).grown hgrow (by simp; omega) (fun k hk => (HRow.out.lt k hk).1)
 have q0 := hlb4.cell 0 rfl
 have qf := hlb4.frozen 0
 have hsz4 : wr.heap.size ≤ w4.heap.size := by have := hgrow.size; simp at this; omega
 have HO4 : RowKit.Hid (w4.ownsRow w.heap.size 123 6 v4 (lined (A ++ [(x1, x2, x3, x4, x5, x6)]) 0).length (evcs (lined (A ++ [(x1, x2, x3, x4, x5, x6)]) 0))) := Lib.hid (by
  rw [HN.out, ← evcs_snoc, List.length_append]
  have e : evc (onLine (x1, x2, x3, x4, x5, x6) ((A.length + 1 : Nat) : Int)) = [.int .i64 x1, .string (bs x2), .string (bs x3), .int .i64 x4, .int .i64 x5, .int .i64 ((M.length : Int) + 1)] := by
   unfold onLine evc
   rw [HLen.out]
   push_cast
   rfl
  rw [e]
  exact hown4)
 obtain ⟨p4, c4, rfl⟩ := owns_form HO4.out
 have HKeep := Lib.hid (fun k t cs (hk : Blk wr k t cs) (ht : t ≠ 123) (hg : k ≠ gl) => (hkeep k t cs hk ht).far (a := ⟨gl, 0, none⟩) hg (.slice p4 (lined (A ++ [(x1, x2, x3, x4, x5, x6)]) 0).length c4))
 have HB4 := Lib.hid hb4
 have HL4 := Lib.hid (hlb4.set 0 (.slice p4 (lined (A ++ [(x1, x2, x3, x4, x5, x6)]) 0).length c4))
 have HLb := Lib.hid hlb4
 clear hown4 hgrow hnil hne hkeep hb4 hlb4 l0
 obtain ⟨n4, hn4⟩ : ∃ q, (lined (A ++ [(x1, x2, x3, x4, x5, x6)]) 0).length = q := ⟨_, rfl⟩
 rw [hn4] at HKeep HL4 
 try simp only [hn4]
 have HN4 := Lib.hid hn4
 clear hn4
 go_wp2_with fail
 go_end0
 refine ⟨rfl, _, ⟨HKeep.out b1 _ _ HS.out.hb (by decide) (fun e => ?_), HL4.out, ?_, HS.out.base, HB4.out.setCell HS.out.base _⟩, HKeep.out, by rw [set_size]; exact hsz4⟩
 ·have := HS.out.hb.ty.ne HS.out.lb.ty (by decide)
  exact this e
 ·have := HO4.out
  rw [HN4.out] at this ⊢
  exact owns_store this HLb.out (by decide) 0 _
def rawK (h : HistM) (k : Nat) : List EventM := (h.2.2.take k).flatMap (evT h)
theorem rawK_next (h : HistM) (k : Nat) (hk : k < h.2.2.length) : rawK h (k + 1) = rawK h k ++ evT h (h.2.2.getD k noTxn) := by
 unfold rawK
 rw [List.take_succ_eq_append_getElem hk, List.flatMap_append]
 simp [hk]
theorem rawK_all (h : HistM) : rawK h h.2.2.length = rawE h := by unfold rawK rawE; rw [List.take_length]
theorem rawK_len {h : HistM} (hm : MayH h) (k : Nat) : (rawK h k).length ≤ 880 := by
 have h1 := raw_len h (h.2.2.take k) (fun t ht => (hm.ses (List.mem_of_mem_take ht)).2.2.2.2)
 have h2 := hm.n2
 have h3 : (h.2.2.take k).length ≤ h.2.2.length := by simp; omega
 unfold rawK
 omega
def opsK (h : HistM) (s : List UInt8) (l : List OpM) (j : Nat) : List EventM := begEv s :: (l.take j).map (opEv h s)
theorem opsK_next (h : HistM) (s : List UInt8) (l : List OpM) (j : Nat) (hj : j < l.length) : opsK h s l (j + 1) = opsK h s l j ++ [opEv h s (l.getD j noOp)] := by
 unfold opsK
 rw [List.take_succ_eq_append_getElem hj, List.map_append]
 simp [hj]
theorem opsK_len (h : HistM) (s : List UInt8) (l : List OpM) (j : Nat) : (opsK h s l j).length ≤ l.length + 1 := by
 unfold opsK
 simp
 omega
theorem opsK_all (h : HistM) (t : TxnM) : opsK h (h.1.getD t.1.toNat []) t.2.2 t.2.2.length ++ [endEv (h.1.getD t.1.toNat []) t.2.1] = evT h t := by
 unfold opsK evT
 rw [List.take_length]
 rfl
set_option maxRecDepth 100000 in
set_option maxHeartbeats 4000000 in
theorem events12_any {w : World} {v : Value} {h : HistM} (hv : HistV w v h) (hm : Modst h) (hT : Lib.Utf8Tabs 1 2 w) :
  Calls Tryz.prog 127 #[v] w fun e w' => ∃ v', e = .returned (.tuple #[v', .int .i64 (eventsP h).2]) ∧ EvsS w' v' (eventsP h).1 ∧ Below w.heap.size w w' := by
 obtain ⟨v0, v1, v2, rfl, h0, h1, h2⟩ := hv
 have T0 := Lib.hid h0
 have T1 := Lib.hid h1
 have T2 := Lib.hid h2
 obtain ⟨p0, c0, rfl, -⟩ := h0
 obtain ⟨p1, c1, rfl, -⟩ := h1
 obtain ⟨p2, c2, rfl, -⟩ := h2
 have hal := (Below.refl w.heap.size w).alloc (Nat.le_refl _) (.cells #[.slice p0 h.1.length c0, .slice p1 h.2.1.length c1, .slice p2 h.2.2.length c2] 25)
 have HMay := Lib.hid (hmay_v (w := w.alloc (.cells #[.slice p0 h.1.length c0, .slice p1 h.2.1.length c1, .slice p2 h.2.2.length c2] 25)) ⟨_, _, _, rfl, T0.out.below hal, T1.out.below hal, T2.out.below hal⟩ hm (Utf8Tabs_below hT hal))
 have HBx := Lib.hid (Blk.new w 25 [.slice p0 h.1.length c0, .slice p1 h.2.1.length c1, .slice p2 h.2.2.length c2])
 have HAL := Lib.hid hal
 have HMo := Lib.hid hm
 clear hT hal hm
 go_enter Tryz.func127, Tryz.ntmps127
 go_wp2_with fail
 refine HMay.out.mono ?_
 rintro e w1 ⟨rfl, hb1⟩
 clear HMay
 have HB1 := Lib.hid (below_next HAL.out hb1)
 have HX1 := Lib.hid (HBx.out.later hb1)
 clear hb1 HAL HBx
 cases hmm : mayH h with
 | false =>
  have HE : RowKit.Hid (eventsP h = ([], 4)) := Lib.hid (by unfold eventsP; rw [hmm]; rfl)
  rw [err_no hmm]
  clear hmm
  go_wp2_with fail
  go_ret2
  rw [HE.out]
  exact ⟨_, rfl, evs_none _, HB1.out⟩
 | true =>
  have HE : RowKit.Hid (eventsP h = (showE h, 0)) := Lib.hid (by unfold eventsP; rw [hmm]; rfl)
  rw [err_yes hmm]
  have HMM := Lib.hid ((mayH_iff h).1 hmm)
  clear hmm
  have o2 := HX1.out.cell 2 rfl
  have olt := HX1.out.lt
  go_wp2_with fail
  clear o2 olt
  have hst0 : EvSt w (w1.alloc (.cells #[.slice none 0 0] 82)) (.slice p0 h.1.length c0) (.slice p1 h.2.1.length c1) (.slice p2 h.2.2.length c2) w.heap.size w1.heap.size (.slice none 0 0) (rawK h 0) :=
   ⟨HX1.out.alloc _, Blk.new w1 82 [.slice none 0 0], by exact World.ownsRow_nil _ _ _ _, HB1.out.size, HB1.out.alloc HB1.out.size _⟩
  have HS0 := Lib.hid hst0
  have q2 := hst0.hb.cell 2 rfl
  obtain ⟨w2, hw2⟩ : ∃ q, w1.alloc (.cells #[.slice none 0 0] 82) = q := ⟨_, rfl⟩
  rw [hw2] at HS0 q2
  try simp only [hw2]
  obtain ⟨gl, hgl⟩ : ∃ q, w1.heap.size = q := ⟨_, rfl⟩
  rw [hgl] at HS0
  try simp only [hgl]
  clear hst0 hw2
  have hn2 := HMM.out.n2
  go_loopw [21] (fun i wr => ∃ (k : Nat) (vl : Value), k ≤ h.2.2.length ∧ i = .int .i64 k ∧ EvSt w wr (.slice p0 h.1.length c0) (.slice p1 h.2.1.length c1) (.slice p2 h.2.2.length c2) w.heap.size gl vl (rawK h k)) (fun i _ => h.2.2.length - (RowKit.intOf i).toNat)
  case atStart => exact ⟨0, _, Nat.zero_le _, rfl, HS0.out⟩
  case round =>
   obtain ⟨k, vl, hk, rfl, hst⟩ := hrel
   by_cases hk1 : k < h.2.2.length
   ·obtain ⟨p9, c9, e9, hc9⟩ := T2.out
    injection e9 with e9 _ e9c
    subst e9 e9c
    obtain ⟨g, sv, rfl, a1, a2, a3, hops⟩ := hc9 k hk1
    have a1 := cell_later hst.bel a1
    have a2 := cell_later hst.bel a2
    have a3 := cell_later hst.bel a3
    have ht : h.2.2.getD k noTxn ∈ h.2.2 := by rw [show h.2.2.getD k noTxn = h.2.2[k] by simp [hk1]]; exact List.getElem_mem hk1
    obtain ⟨s0, s1, f1, f3, fl⟩ := HMM.out.ses ht
    have HOpOf := Lib.hid (fun o (ho : o ∈ (h.2.2.getD k noTxn).2.2) => HMM.out.opOf ht ho)
    have HNx := Lib.hid (rawK_next h k hk1)
    have HAll := Lib.hid (opsK_all h (h.2.2.getD k noTxn))
    obtain ⟨⟨ts, tf, tl⟩, htt⟩ : ∃ t, h.2.2.getD k noTxn = t := ⟨_, rfl⟩
    rw [htt] at a1 a2 hops s0 s1 f1 f3 fl HOpOf HNx HAll
    dsimp only at a1 a2 a3 hops s0 s1 f1 f3 fl HOpOf HNx HAll
    obtain ⟨sn, rfl⟩ : ∃ sn : Nat, ts = (sn : Int) := ⟨ts.toNat, by omega⟩
    have hsl : sn < h.1.length := by omega
    obtain ⟨p8, c8, e8, hc8⟩ := T0.out
    injection e8 with e8 _ e8c
    subst e8 e8c
    obtain ⟨gs, rfl, b0⟩ := hc8 sn hsl
    have b0 := cell_later hst.bel b0
    rw [Int.toNat_natCast] at HAll
    obtain ⟨s, hs⟩ : ∃ s, h.1.getD sn [] = s := ⟨_, rfl⟩
    rw [hs] at b0 HAll
    have q0 := hst.hb.cell 0 rfl
    have q1 := hst.hb.cell 1 rfl
    have qlt := hst.hb.lt
    have blt := World.block_lt_of_cell? wr _ b0
    obtain ⟨po, co, rfl, -, hoc⟩ := hops
    have hal0 := (Below.refl wr.heap.size wr).alloc (Nat.le_refl _) (.cells #[.int .i64 (sn : Int), .int .i64 tf, .slice po tl.length co] 47)
    have q0a := cell_later hal0 q0
    have b0a := cell_later hal0 b0
    clear hal0
    have HOc := Lib.hid hoc
    have HAdd := Lib.hid (add12_any (begEv s) (hst.below ((Below.refl wr.heap.size wr).alloc (Nat.le_refl _) (.cells #[.int .i64 (sn : Int), .int .i64 tf, .slice po tl.length co] 47))) (by have := rawK_len HMM.out k; omega))
    unfold evV begEv at HAdd
    dsimp only at HAdd
    have HST := Lib.hid hst
    have HTb := Lib.hid (Blk.new wr 47 [.int .i64 (sn : Int), .int .i64 tf, .slice po tl.length co])
    have hbs := hst.bel.size
    clear hst ht hoc hs
    go_wp2_with fail
    refine HAdd.out.mono ?_
    rintro e w3 ⟨rfl, vl3, hst3, hkp3, hsz3⟩
    have HT3 := Lib.hid (hkp3 _ _ _ HTb.out (by decide) (fun e => by have := HST.out.lb.lt; omega))
    have HS3 := Lib.hid hst3
    obtain ⟨gt, hgt⟩ : ∃ q, wr.heap.size = q := ⟨_, rfl⟩
    rw [hgt] at HT3
    try simp only [hgt]
    have t1 := HT3.out.cell 1 rfl
    have t2 := HT3.out.cell 2 rfl
    clear hst3 hkp3 hsz3 HAdd HTb HST a1 a2 a3 b0 q0 q1 qlt blt q0a b0a
    go_wp2_with fail
    go_loopw [38] (fun i wq => ∃ (j : Nat) (vl' : Value), j ≤ tl.length ∧ i = .int .i64 j ∧ EvSt w wq (.slice (some ⟨gs, 0, none⟩) h.1.length c0) (.slice p1 h.2.1.length c1) (.slice (some ⟨g, 0, none⟩) h.2.2.length c2) w.heap.size gl vl' (rawK h k ++ opsK h s tl j) ∧ Blk wq gt 47 [.int .i64 (sn : Int), .int .i64 tf, .slice po tl.length co]) (fun i _ => tl.length - (RowKit.intOf i).toNat)
    case atStart => exact ⟨0, vl3, Nat.zero_le _, rfl, HS3.out, HT3.out⟩
    case round =>
     obtain ⟨j, vl', hj, rfl, hst, hbt⟩ := hrel
     have t1' := hbt.cell 1 rfl
     have hrl := rawK_len HMM.out k
     have hol := opsK_len h s tl j
     by_cases hj1 : j < tl.length
     ·obtain ⟨go, rfl, o0, o1, o2, o3⟩ := HOc.out j hj1
      have o0 := cell_later hst.bel o0
      have o1 := cell_later hst.bel o1
      have o2 := cell_later hst.bel o2
      have o3 := cell_later hst.bel o3
      have hk2 := okOp_key (HOpOf.out (tl.getD j noOp) (by rw [show tl.getD j noOp = tl[j] by simp [hj1]]; exact List.getElem_mem hj1))
      have HON := Lib.hid (opsK_next h s tl j hj1)
      obtain ⟨⟨ow, ok, od, on⟩, hoo⟩ : ∃ o, tl.getD j noOp = o := ⟨_, rfl⟩
      rw [hoo] at o0 o1 o2 o3 hk2 HON
      dsimp only at o0 o1 o2 o3 hk2
      obtain ⟨kn, rfl⟩ : ∃ kn : Nat, ok = (kn : Int) := ⟨ok.toNat, by omega⟩
      have hkl : kn < h.2.1.length := by omega
      obtain ⟨p7, c7, e7, hc7⟩ := T1.out
      injection e7 with e7 _ e7c
      subst e7 e7c
      obtain ⟨gk, rfl, k0⟩ := hc7 kn hkl
      have k0 := cell_later hst.bel k0
      have q1 := hst.hb.cell 1 rfl
      have HAd0 := Lib.hid (fun w' (hb : Below wr.heap.size wr w') => add12_any (kindV ow, s, h.2.1.getD kn [], od, on, 0) (hst.below hb) (by rw [List.length_append]; omega))
      unfold evV at HAd0
      dsimp only at HAd0
      obtain ⟨key, hkey⟩ : ∃ q, h.2.1.getD kn [] = q := ⟨_, rfl⟩
      rw [hkey] at HAd0 k0
      have hbx := Blk.new wr 51 [.bool ow, .int .i64 (kn : Int), .int .i64 od, .int .i64 on]
      have hal := (Below.refl wr.heap.size wr).alloc (Nat.le_refl _) (.cells #[.bool ow, .int .i64 (kn : Int), .int .i64 od, .int .i64 on] 51)
      have hop : opEv h s (ow, (kn : Int), od, on) = (kindV ow, s, key, od, on, 0) := by unfold opEv kindV; dsimp only; rw [Int.toNat_natCast, hkey]
      have HStep : RowKit.Hid (rawK h k ++ opsK h s tl (j + 1) = (rawK h k ++ opsK h s tl j) ++ [(kindV ow, s, key, od, on, 0)]) := Lib.hid (by rw [HON.out, List.append_assoc, hop])
      clear hop
      go_wp2_with fail
      obtain ⟨wq1, hwq1⟩ : ∃ q, wr.alloc (.cells #[.bool ow, .int .i64 (kn : Int), .int .i64 od, .int .i64 on] 51) = q := ⟨_, rfl⟩
      have hbx1 : Blk wq1 wr.heap.size 51 [.bool ow, .int .i64 (kn : Int), .int .i64 od, .int .i64 on] := by rw [← hwq1]; exact hbx
      rw [hwq1] at hal
      try simp only [hwq1]
      have HAdd := Lib.hid (fun w' (hb : Below wq1.heap.size wq1 w') => HAd0.out w' (below_next hal hb))
      have HBt := Lib.hid (hbt.later hal)
      have q1' := cell_later hal q1
      have k0' := cell_later hal k0
      have hglt := hst.lb.lt
      have hgtl := hbt.lt
      have hgtne : gt ≠ gl := hbt.ty.ne hst.lb.ty (by decide)
      obtain ⟨gp, hgp⟩ : ∃ q, wr.heap.size = q := ⟨_, rfl⟩
      rw [hgp] at hbx1
      try simp only [hgp]
      have HS : RowKit.Hid (∀ w', Below wq1.heap.size wq1 w' → (w'.cell? ⟨gp, 0, none⟩ = some (.bool ow) ∧ w'.cell? ⟨gp, 1, none⟩ = some (.int .i64 (kn : Int)) ∧ w'.cell? ⟨gp, 2, none⟩ = some (.int .i64 od) ∧ w'.cell? ⟨gp, 3, none⟩ = some (.int .i64 on) ∧ w'.cell? ⟨w.heap.size, 1, none⟩ = some (.slice (some ⟨gk, 0, none⟩) h.2.1.length c1) ∧ w'.cell? ⟨gk, kn, none⟩ = some (.string (bs key)) ∧ Below wq1.heap.size wq1 w')) := Lib.hid (fun w' hb => ⟨cell_later hb (hbx1.cell 0 rfl), cell_later hb (hbx1.cell 1 rfl), cell_later hb (hbx1.cell 2 rfl), cell_later hb (hbx1.cell 3 rfl), cell_later hb q1', cell_later hb k0', hb⟩)
      clear hwq1 hbx HAd0 o0 o1 o2 o3 hst hbt q1 k0 q1' k0' hbx1 t1' hkey hoo
      refine wp_region_keep (fun w' => w'.cell? ⟨gp, 0, none⟩ = some (.bool ow) ∧ w'.cell? ⟨gp, 1, none⟩ = some (.int .i64 (kn : Int)) ∧ w'.cell? ⟨gp, 2, none⟩ = some (.int .i64 od) ∧ w'.cell? ⟨gp, 3, none⟩ = some (.int .i64 on) ∧ w'.cell? ⟨w.heap.size, 1, none⟩ = some (.slice (some ⟨gk, 0, none⟩) h.2.1.length c1) ∧ w'.cell? ⟨gk, kn, none⟩ = some (.string (bs key)) ∧ Below wq1.heap.size wq1 w') [13] (by kernel_rfl) ?_
      have hB0 : Below (wq1).heap.size (wq1) (wq1).drew := Below.drew (Below.refl _ _)
      have hS0 := HS.out _ hB0
      refine wfr 0 (v := ?_) rfl ?_ ?_
      rotate_left
      ·intro w' hw';go_simp;try with_reducible rfl
      try simp only [Act.put, sq]
      refine wtk 1 14 (v := ?_) rfl ?_ hS0 ?_
      rotate_left
      ·intro w' hw';(try dsimp only at hw');go_simp;try with_reducible rfl
      try simp only [Act.put, sq]
      refine wfr 3 (v := ?_) rfl ?_ ?_
      rotate_left
      ·intro w' hw';go_simp;try with_reducible rfl
      try simp only [Act.put, sq]
      refine wfr 4 (v := ?_) rfl ?_ ?_
      rotate_left
      ·intro w' hw';go_simp;try with_reducible rfl
      try simp only [Act.put, sq]
      refine wtk 5 14 (v := ?_) rfl ?_ hS0 ?_
      rotate_left
      ·intro w' hw';(try dsimp only at hw');go_simp;try with_reducible rfl
      try simp only [Act.put, sq]
      refine wfr 6 (v := ?_) rfl ?_ ?_
      rotate_left
      ·intro w' hw';go_simp;try with_reducible rfl
      try simp only [Act.put, sq]
      refine wtk 7 14 (v := ?_) rfl ?_ hS0 ?_
      rotate_left
      ·intro w' hw';(try dsimp only at hw');go_simp;try with_reducible rfl
      try simp only [Act.put, sq]
      refine wfr 8 (v := ?_) rfl ?_ ?_
      rotate_left
      ·intro w' hw';go_simp;try with_reducible rfl
      try simp only [Act.put, sq]
      refine wtk 9 14 (v := ?_) rfl ?_ hS0 ?_
      rotate_left
      ·intro w' hw';(try dsimp only at hw');go_simp;try with_reducible rfl
      try simp only [Act.put, sq]
      refine wfr 10 (v := ?_) rfl ?_ ?_
      rotate_left
      ·intro w' hw';go_simp;try with_reducible rfl
      try simp only [Act.put, sq]
      refine wtk 11 14 (v := ?_) rfl ?_ hS0 ?_
      rotate_left
      ·intro w' hw';(try dsimp only at hw');go_simp;try with_reducible rfl
      try simp only [Act.put, sq]
      refine won 2 rfl fun K hK => ?_
      go_simp
      refine (kind12_any _ _ _ _ _).mono ?_
      rintro e w1 ⟨rfl, hb1⟩
      have hB1 := below_next hB0 hb1
      have hS1 := HS.out _ hB1
      refine hK.out _ _ (fun _ _ => hS1) ?_
      clear hK K hS0
      try simp only [Act.put, sq]
      refine won 12 rfl fun K hK => ?_
      go_simp
      refine hK.out _ _ (fun _ h => h) ?_
      clear hK K
      try simp only [Act.put, sq]
      refine won 13 rfl fun K hK => ?_
      go_simp
      refine (HAdd.out _ hB1).mono ?_
      rintro e w2 ⟨rfl, vl2, hst2, hkp2, hsz2⟩
      refine hK.out _ _ (fun h => absurd h (by decide)) ?_
      clear hK K
      try simp only [Act.put, sq]
      refine wpAnyM_done (by kernel_rfl) ?_ _
      try simp only [Act.put, sq]
      have HBt2 := Lib.hid (hkp2 _ _ _ (HBt.out.later hB1) (by decide) hgtne)
      have HSt2 := Lib.hid hst2
      clear hst2 hkp2 hsz2 HS HAdd hB0 hB1 hb1
      go_wp2_with fail
      go_roundw
      case rel => exact ⟨j + 1, vl2, by omega, by go_num, by rw [HStep.out]; exact HSt2.out, HBt2.out⟩
      case measure => simp [RowKit.intOf]; omega
     ·have hje : j = tl.length := by omega
      subst hje
      have HSt := Lib.hid hst
      have HStep : RowKit.Hid (rawK h (k + 1) = (rawK h k ++ opsK h s tl tl.length) ++ [endEv s tf]) := Lib.hid (by rw [HNx.out, ← HAll.out, List.append_assoc])
      have HAd0 := Lib.hid (fun w' (hb : Below wr.heap.size wr w') => add12_any (endEv s tf) (HSt.out.below hb) (by rw [List.length_append]; omega))
      unfold evV endEv at HAd0
      dsimp only at HAd0
      clear hst hbt
      go_wp2_with fail
      refine (fate12_any tf f1 f3 wr).mono ?_
      rintro e w4 ⟨rfl, hb4⟩
      go_wp2_with fail
      refine (HAd0.out w4 hb4).mono ?_
      rintro e w5 ⟨rfl, vl5, hst5, -, -⟩
      have HS5 := Lib.hid hst5
      clear hst5 hb4 HAd0
      go_wp2_with fail
      go_roundw
      case rel => exact ⟨k + 1, vl5, by omega, by go_num, by rw [HStep.out]; exact HS5.out⟩
      case measure => simp [RowKit.intOf]; omega
   ·have hke : k = h.2.2.length := by omega
    subst hke
    rw [rawK_all] at hst
    have l0 := hst.lb.cell 0 rfl
    have HRow := Lib.hid (own_evs hst.row)
    have HBel := Lib.hid hst.bel
    clear hst
    go_wp2_with fail
    go_ret2
    rw [HE.out]
    exact ⟨_, rfl, HRow.out, HBel.out⟩
end Go.Proofs.YtmgchjddpmmglaaGreatDoor
