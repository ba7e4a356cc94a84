/-
  Layer 14 (erase), the program: a history without its lost reads. No conditions but that unicode/utf8's two tables are as their initialisers lay them.
-/
import Derived.Test.YtmgchjddpmmglaaGreatDoorQxHistVa
import Derived.Test.YtmgchjddpmmglaaGreatDoorQxHFew
import Derived.Test.YtmgchjddpmmglaaGreatDoorQxInK
import Derived.Test.YtmgchjddpmmglaaGreatDoorQxErK
namespace Go.Proofs.YtmgchjddpmmglaaGreatDoor
open Go.RowKit Go.Lib
theorem load_hist {w : World} {b : Nat} {x y z : Value} (h : Blk w b 25 [x, y, z]) : (loadVar 25 ⟨b, 0, none⟩).run Tryz.prog w = .ok (.agg #[x, y, z]) w := by
 have hr : w.rangeAt b 0 [x, y, z] := fun j v hj => by rw [Nat.zero_add]; exact h.cell j hj
 exact run_loadVar_mid (P := Tryz.prog) w b 0 25 [x, y, z] _ hr Tryz.underlying25 rfl (by kernel_rfl)
def ofP (h : HistM) : HistM := if mayH h then eraseH h else noH
theorem toF_at {h : HistM} (hm : MayH h) {o : OpM} (ho : o ∈ allOps h) (hl : lostO o = false) : toF h h.2.1.length o.2.1 = newK h o.2.1 := by
 have h1 := hm.op o ho
 unfold okOp inside at h1
 simp at h1
 unfold toF
 rw [if_pos ⟨h1.1.1, h1.1.2, used_of ho hl h1.1.1⟩]
theorem eraseL_next (h : HistM) (l : List OpM) (m : Nat) (hm : m < l.length) : eraseL h (l.take (m + 1)) = if lostO (l.getD m noOp) then eraseL h (l.take m) else eraseL h (l.take m) ++ [eraseO h (l.getD m noOp)] := by
 unfold eraseL
 rw [take_snoc l m hm, List.filter_append, List.map_append]
 by_cases e : lostO (l.getD m noOp) = true
 ·rw [if_pos e, List.filter_cons, e]
  simp
 ·have e2 : lostO (l.getD m noOp) = false := by simpa using e
  rw [if_neg e, List.filter_cons, e2]
  rfl
structure OfSt (w : World) (N G : Nat) (wr : World) (v0 v1 v2 vs vk vt : Value) (S K : List (List UInt8)) (LV : List TxnV) (b n : Nat) (f : Int → Int) : Prop where
 t : wr.ownsRow N 47 3 vt LV.length (txnsCells LV)
 o : ∀ t ∈ LV, wr.ownsRow N 51 4 t.2 t.1.2.2.length (opsCells t.1.2.2)
 s : wr.ownsRow 0 9 1 vs S.length (strs S)
 k : wr.ownsRow 0 9 1 vk K.length (strs K)
 m : IMap wr b n f
 h : Blk wr w.heap.size 25 [v0, v1, v2]
 r : Blk wr (w.heap.size + 1) 25 [.slice none 0 0, .slice none 0 0, .slice none 0 0]
 g : Blk wr G 25 [vs, vk, vt]
 b : Below w.heap.size w wr
 c : N ≤ wr.heap.size
 d : G < N
 e : w.heap.size + 1 < G
theorem IMap.far {w : World} {b n : Nat} {f : Int → Int} (h : IMap w b n f) {a : Addr} {t : TypeId} {cs : List Value} (hB : Blk w a.block t cs) (u : Value) : IMap (w.setCell a u) b n f := h.at (Below.heap_setCell w a u b (by
 intro e
 obtain ⟨D, ⟨es, clock, hb, r⟩, h2⟩ := h
 have h' : w.heap[a.block]? = some (.cells cs.toArray t (0, 0)) := hB
 rw [e, h'] at hb
 cases hb))
theorem owns_box {w : World} {base size n B : Nat} {e : TypeId} {v u : Value} {i : Nat} {xs : List Value} (h : w.ownsRow base e size v n xs) (hne : ∀ k, v.ownBlock = some k → k ≠ B) : (w.setCell ⟨B, i, none⟩ u).ownsRow base e size v n xs := by
 obtain ⟨h1, h2⟩ := h
 refine ⟨h1, ?_⟩
 rcases h2 with h2 | ⟨g, cap, cur, e1, hg, hw, r⟩
 ·exact .inl h2
 ·exact .inr ⟨g, cap, cur, e1, hg, (Below.heap_setCell w ⟨B, i, none⟩ u g (hne g (by subst e1; rfl))).trans hw, r⟩
theorem of_next {w wr W3 w6 : World} {N G b n : Nat} {f : Int → Int} {v0 v1 v2 vs vk vt v5 v6 : Value} {S K : List (List UInt8)} {LV : List TxnV} {X : Obj} {ts tf : Int} {tl : List OpM} (h : OfSt w N G wr v0 v1 v2 vs vk vt S K LV b n f) (hb : Below wr.heap.size wr W3)
  (h5 : W3.ownsRow N 51 4 v5 tl.length (opsCells tl)) {k : Nat} (hk : LV.length = k) (h6 : w6.ownsRow N 47 3 v6 (k + 1) (txnsCells LV ++ [.int .i64 ts, .int .i64 tf, v5])) (hg : (W3.alloc X).grownBy w6 vt.ownBlock) :
  OfSt w N G (w6.setCell ⟨G, 2, none⟩ v6) v0 v1 v2 vs vk v6 S K (LV ++ [((ts, tf, tl), v5)]) b n f := by
 have hA : Below wr.heap.size wr (W3.alloc X) := hb.alloc hb.size X
 have tA := owns_later h.t hA
 have hd := h.d
 have he := h.e
 have gA := h.g.later hA
 have o6 : Blk w6 G 25 [vs, vk, vt] := gA.grown tA hd hg
 have mA := h.m.later hA
 refine ⟨?_, ?_, ?_, ?_, ?_, ?_, ?_, o6.set 2 v6, ?_, ?_, hd, he⟩
 ·have e : txnsCells (LV ++ [((ts, tf, tl), v5)]) = txnsCells LV ++ [.int .i64 ts, .int .i64 tf, v5] := by simp [txnsCells, txnCells]
  rw [e, List.length_append, hk]
  exact owns_far h6 hd _
 ·intro t ht
  rcases List.mem_append.1 ht with ht | ht
  ·exact owns_far (owns_other (owns_later (h.o t ht) hA) tA (by decide) hg) hd _
  ·obtain rfl : t = ((ts, tf, tl), v5) := by simpa using ht
   exact owns_far (owns_other (h5.alloc X) tA (by decide) hg) hd _
 ·exact owns_store (owns_other (owns_later h.s hA) tA (by decide) hg) o6 (by decide) _ _
 ·exact owns_store (owns_other (owns_later h.k hA) tA (by decide) hg) o6 (by decide) _ _
 ·exact IMap.far (a := ⟨G, 2, none⟩) (mA.kept hg (fun e => mA.row tA e.symm)) o6 v6
 ·exact ((h.h.later hA).grown tA (by omega) hg).far (by show w.heap.size ≠ G; omega) _
 ·exact ((h.r.later hA).grown tA (by omega) hg).far (by show w.heap.size + 1 ≠ G; omega) _
 ·have hs := (h.b.trans (hA.mono h.b.size)).size
  exact (((h.b.trans (hA.mono h.b.size)).grown hg hs (fun k hk => by have := (tA.lt k hk).1; omega)).setCell (by show w.heap.size ≤ G; omega) _)
 ·have := hg.size
  have := h.c
  have := hA.size
  simp only [World.setCell, Array.size_modify]
  omega
theorem of_end {w wr : World} {N G b n : Nat} {f : Int → Int} {v0 v1 v2 vs vk vt : Value} {S K : List (List UInt8)} {T : List TxnM} {LV : List TxnV} (h : OfSt w N G wr v0 v1 v2 vs vk vt S K LV b n f) (hL : LV.map (·.1) = T) :
  Blk (((wr.setCell ⟨w.heap.size + 1, 0, none⟩ vs).setCell ⟨w.heap.size + 1, 1, none⟩ vk).setCell ⟨w.heap.size + 1, 2, none⟩ vt) (w.heap.size + 1) 25 [vs, vk, vt] ∧
  HistV (((wr.setCell ⟨w.heap.size + 1, 0, none⟩ vs).setCell ⟨w.heap.size + 1, 1, none⟩ vk).setCell ⟨w.heap.size + 1, 2, none⟩ vt) (.agg #[vs, vk, vt]) (S, K, T) ∧
   Below w.heap.size w (((wr.setCell ⟨w.heap.size + 1, 0, none⟩ vs).setCell ⟨w.heap.size + 1, 1, none⟩ vk).setCell ⟨w.heap.size + 1, 2, none⟩ vt) := by
 have r0 := h.r
 have r1 := r0.set 0 vs
 have r2 := r1.set 1 vk
 have ks : ∀ {base size n : Nat} {e : TypeId} {v : Value} {xs : List Value}, e ≠ 25 → wr.ownsRow base e size v n xs → (((wr.setCell ⟨w.heap.size + 1, 0, none⟩ vs).setCell ⟨w.heap.size + 1, 1, none⟩ vk).setCell ⟨w.heap.size + 1, 2, none⟩ vt).ownsRow base e size v n xs := fun he hr => owns_store (owns_store (owns_store hr r0 he 0 vs) r1 he 1 vk) r2 he 2 vt
 have hs := ks (by decide) h.s
 have hk := ks (by decide) h.k
 have ht := ks (by decide) h.t
 have ho := fun t m => ks (by decide) (h.o t m)
 refine ⟨r2.set 2 vt, ⟨vs, vk, vt, rfl, own_texts hs, own_texts hk, ?_⟩, ?_⟩
 ·have := own_txns ht (fun t m => own_ops (ho t m))
  rw [hL] at this
  exact this
 ·have e := h.e
  exact ((h.b.setCell (by show w.heap.size ≤ w.heap.size + 1; omega) _).setCell (by show w.heap.size ≤ w.heap.size + 1; omega) _).setCell (by show w.heap.size ≤ w.heap.size + 1; omega) _
theorem noH_v (w : World) : HistV w (.agg #[.slice none 0 0, .slice none 0 0, .slice none 0 0]) noH := ⟨_, _, _, rfl, ⟨none, 0, rfl, fun j hj => absurd hj (Nat.not_lt_zero j)⟩, ⟨none, 0, rfl, fun j hj => absurd hj (Nat.not_lt_zero j)⟩, ⟨none, 0, rfl, fun j hj => absurd hj (Nat.not_lt_zero j)⟩⟩
theorem of_news {w : World} {a : Addr} {L : List (List UInt8)} (h : HasTexts w (some a) L) : ∀ (j : Nat) (u : Value), (strs L)[j]? = some u → w.cell? (a.add j) = some u := fun j u hj => by
 have hjl : j < L.length := by
  have := (List.getElem?_eq_some_iff.1 hj).1
  simpa [strs] using this
 obtain ⟨g, e, hc⟩ := h j hjl
 injection e with e
 subst e
 have eu : u = .string (bs (L.getD j [])) := by
  simp [strs, hjl] at hj
  simp [hjl, ← hj]
 rw [eu, Addr.add_lit, Nat.zero_add]
 exact hc
set_option maxRecDepth 100000 in
set_option maxHeartbeats 4000000 in
theorem of14_any {w : World} {v : Value} {h : HistM} (hv : HistV w v h) (hm : Modst h) (hT : Lib.Utf8Tabs 1 2 w) :
  Calls Tryz.prog 21 #[v] w fun e w' => ∃ v', e = .returned (.tuple #[v', .int .i64 (errH h)]) ∧ HistV w' v' (ofP h) ∧ Below w.heap.size w w' := by
 have H0 := Lib.hid hv
 obtain ⟨v0, v1, v2, rfl, ⟨p0, c0, rfl, k0⟩, ⟨p1, c1, rfl, -⟩, ⟨p2, c2, rfl, k2⟩⟩ := hv
 obtain ⟨n0, hn0⟩ : ∃ n, h.1.length = n := ⟨_, rfl⟩
 rw [hn0] at H0 ⊢
 have HN0 := Lib.hid hn0
 clear hn0
 have HS0 := Lib.hid k0
 have HX := Lib.hid k2
 have HMod := Lib.hid hm
 have hal := ((Below.refl w.heap.size w).alloc (Nat.le_refl _) (.cells #[.slice p0 n0 c0, .slice p1 h.2.1.length c1, .slice p2 h.2.2.length c2] 25)).alloc (by simp) (.cells #[.slice none 0 0, .slice none 0 0, .slice none 0 0] 25)
 have hbx := (Blk.new w 25 [.slice p0 n0 c0, .slice p1 h.2.1.length c1, .slice p2 h.2.2.length c2]).alloc (.cells #[.slice none 0 0, .slice none 0 0, .slice none 0 0] 25)
 have hbr := Blk.new (w.alloc (.cells #[.slice p0 n0 c0, .slice p1 h.2.1.length c1, .slice p2 h.2.2.length c2] 25)) 25 [.slice none 0 0, .slice none 0 0, .slice none 0 0]
 simp only [World.size_alloc] at hbr
 have HMay := Lib.hid (hmay_v (H0.out.below hal) hm (Utf8Tabs_below hT hal))
 have HAL := Lib.hid hal
 have HBX := Lib.hid hbx
 have HBR := Lib.hid hbr
 clear k0 k2 hm hT hal hbx hbr
 go_enter Tryz.func21, Tryz.ntmps21
 go_wp2_with fail
 refine HMay.out.mono ?_
 rintro e w1 ⟨rfl, hb1⟩
 have HB1 := Lib.hid (below_next HAL.out hb1)
 have HX1 := Lib.hid (HBX.out.later hb1)
 have HR1 := Lib.hid (HBR.out.later hb1)
 have x0 := HX1.out.cell 0 rfl
 have x1 := HX1.out.cell 1 rfl
 have x2 := HX1.out.cell 2 rfl
 have y0 := HR1.out.cell 0 rfl
 have y1 := HR1.out.cell 1 rfl
 have y2 := HR1.out.cell 2 rfl
 have g0 := HR1.out.frozen 0
 have g1 := HR1.out.frozen 1
 have g2 := HR1.out.frozen 2
 clear hb1 HMay HAL HBX HBR
 cases hmm : mayH h with
 | false =>
  have HE : RowKit.Hid (ofP h = noH) := Lib.hid (by unfold ofP; rw [hmm]; rfl)
  have HEr := Lib.hid (err_no hmm)
  rw [HEr.out]
  clear hmm
  go_wp2_with fail
  refine bodyPost_ret (results_ct Tryz.results21 _ _ _ _ _ rfl (load_hist (((HR1.out.set 0 (.slice none 0 0)).set 1 (.slice none 0 0)).set 2 (.slice none 0 0)))) rfl ?_
  exact ⟨_, by rw [HEr.out] <;> rfl, by rw [HE.out]; exact noH_v _, ((HB1.out.setCell (by show w.heap.size ≤ w.heap.size + 1; omega) _).setCell (by show w.heap.size ≤ w.heap.size + 1; omega) _).setCell (by show w.heap.size ≤ w.heap.size + 1; omega) _⟩
 | true =>
  have HE : RowKit.Hid (ofP h = eraseH h) := Lib.hid (by unfold ofP; rw [hmm]; rfl)
  have HMM := Lib.hid ((mayH_iff h).1 hmm)
  have HKe := Lib.hid (kept14_any (H0.out.below HB1.out) HMod.out hmm)
  have HEr := Lib.hid (err_yes hmm)
  rw [HEr.out]
  have m3 : h.2.2.length ≤ 1000 := HMod.out.2.2.1
  have hne := Nat.le_refl w.heap.size
  clear hmm y0 y1 y2 g0 g1 g2 hne
  go_wp2_with fail
  refine HKe.out.mono ?_
  rintro e w2 ⟨lv, bm, nm, rfl, hk2, hm2, hbm, hb2⟩
  obtain ⟨pk, ck, rfl⟩ := owns_form hk2
  have HK2 := Lib.hid (owns_base hk2 (Nat.zero_le _))
  have HM2 := Lib.hid hm2
  have HB2 := Lib.hid (below_next HB1.out hb2)
  have HX2 := Lib.hid (HX1.out.later hb2)
  have HR2 := Lib.hid (HR1.out.later hb2)
  have HS2 := Lib.hid (fun j hj => by
   obtain ⟨g, e, hc⟩ := HS0.out j hj
   exact ⟨g, e, cell_later (below_next HB1.out hb2) hc⟩ : HasTexts w2 p0 h.1)
  have hs2 : w.heap.size + 1 + 1 ≤ w2.heap.size := by have := HR2.out.lt; omega
  have HSz := Lib.hid hs2
  have x0 := HX2.out.cell 0 rfl
  have x2 := HX2.out.cell 2 rfl
  have xl := HX2.out.lt
  obtain ⟨i0, hi, hz0, hz1, hz2⟩ := info_parts info_str
  have hlen0 : n0 ≤ 1000 := by rw [← HN0.out]; exact HMod.out.1
  clear hk2 hm2 hbm hb2 HKe HB1 HX1 HR1 x1 hs2
  go_upto_region 5 with fail
  go_cut [7] (fun s7 wx => ∃ vs G, s7 = .pointer (some ⟨G, 0, none⟩) ∧ wx.ownsRow 0 9 1 vs h.1.length (strs h.1) ∧ Blk wx G 25 [vs, .slice pk (keptK h h.2.1.length).length ck, .slice none 0 0] ∧ Below w2.heap.size w2 wx ∧ w2.heap.size ≤ G)
  case first =>
   cases p0 with
   | none =>
    have e0 : h.1 = [] := by
     cases hh : h.1 with
     | nil => rfl
     | cons a l =>
      have := HS2.out 0 (by rw [hh]; simp)
      obtain ⟨g, e, -⟩ := this
      cases e
    have HN2 := Lib.hid e0
    have en : n0 = 0 := by rw [← HN0.out, e0]; rfl
    clear e0 hlen0 HN0
    subst en
    go_wp2_with fail
    go_meet
    exact ⟨.slice none 0 0, _, rfl, by rw [HN2.out]; exact World.ownsRow_nil _ _ _ _, Blk.new w2 25 [.slice none 0 0, .slice pk (keptK h h.2.1.length).length ck, .slice none 0 0], (Below.refl _ _).alloc (Nat.le_refl _) _, Nat.le_refl _⟩
   | some a0 =>
    go_wp2_with (at_builtin; refine wpList_append_own _ rfl _ _ 22 rfl w2.heap.size 9 i0 (.string ByteArray.empty) 1 16 Tryz.underlying22 hi hz0 hz1 hz2 rfl (by decide) _ 0 [] rfl (World.ownsRow_nil _ _ _ _) a0 n0 c0 (strs h.1) rfl (by simp [strs, HN0.out]) (of_news HS2.out) (ones_strs _) (by unfold maxLen; omega) (by omega) (Nat.le_refl _) ?_)
    intro v4 w4 hown4 hgrow hnil
    try simp only [Nat.zero_add, List.nil_append] at hown4
    obtain ⟨p4, c4, rfl⟩ := owns_form hown4
    have hb4 : Below w2.heap.size w2 w4 := (Below.refl w2.heap.size w2).grown hgrow (Nat.le_refl _) (fun k hk => by simp [Value.ownBlock] at hk)
    have HO4 : RowKit.Hid (w4.ownsRow 0 9 1 (.slice p4 n0 c4) h.1.length (strs h.1)) := Lib.hid (owns_base (by rw [HN0.out]; exact hown4) (Nat.zero_le _))
    have HB4 := Lib.hid hb4
    clear hown4 hgrow hnil hb4
    go_wp2_with fail
    go_meet
    exact ⟨.slice p4 n0 c4, _, rfl, HO4.out.alloc _, Blk.new w4 25 [.slice p4 n0 c4, .slice pk (keptK h h.2.1.length).length ck, .slice none 0 0], HB4.out.alloc HB4.out.size _, HB4.out.size⟩
  case rest =>
   obtain ⟨vs, G, rfl, hvs, hg, hbx, hG⟩ := hcut
   have hst : OfSt w wc.heap.size G wc (.slice p0 n0 c0) (.slice p1 h.2.1.length c1) (.slice p2 h.2.2.length c2) vs (.slice pk (keptK h h.2.1.length).length ck) (.slice none 0 0) h.1 (keptK h h.2.1.length) [] bm nm (toF h h.2.1.length) :=
    ⟨World.ownsRow_nil _ _ _ _, (fun t ht => by cases ht), hvs, owns_later HK2.out hbx, HM2.out.later hbx, HX2.out.later hbx, HR2.out.later hbx, hg, below_next HB2.out hbx, Nat.le_refl _, hg.lt, by have := HSz.out; omega⟩
   have HST0 := Lib.hid hst
   have x2 := hst.h.cell 2 rfl
   obtain ⟨N, hN⟩ : ∃ N, wc.heap.size = N := ⟨_, rfl⟩
   rw [hN] at HST0
   have hgl : G < wc.heap.size := hg.lt
   clear hvs hg hbx hst x0 xl hlen0 hi hz0 hz1 hz2
   obtain ⟨i3, hi3, hy0, hy1, hy2⟩ := info_parts info_op
   obtain ⟨i4, hi4, hw0, hw1, hw2⟩ := info_parts info_txn
   go_wp2_with fail
   go_loopw [32] (fun i wr => ∃ (k : Nat) (vt : Value) (LV : List TxnV), k ≤ h.2.2.length ∧ i = .int .i64 k ∧ LV.map (·.1) = (h.2.2.take k).map (eraseT h) ∧ OfSt w N G wr (.slice p0 n0 c0) (.slice p1 h.2.1.length c1) (.slice p2 h.2.2.length c2) vs (.slice pk (keptK h h.2.1.length).length ck) vt h.1 (keptK h h.2.1.length) LV bm nm (toF h h.2.1.length)) (fun i _ => h.2.2.length - (RowKit.intOf i).toNat)
   case atStart => exact ⟨0, _, [], Nat.zero_le _, rfl, rfl, HST0.out⟩
   case round =>
    obtain ⟨wo, rfl⟩ : ∃ q, q = wr := ⟨_, rfl⟩
    obtain ⟨k, vt, LV, hk, rfl, hLV, st⟩ := hrel
    have hll : LV.length = k := by
     have := congrArg List.length hLV
     simpa [hk] using this
    have HLl := Lib.hid hll
    clear hll
    by_cases hk1 : k < h.2.2.length
    ·obtain ⟨g, sv, rfl, a1, a2, a3, a4⟩ := HX.out k hk1
     have htl : (h.2.2.getD k noTxn).2.2.length ≤ 1000 := by
      have e : h.2.2.getD k noTxn = h.2.2[k] := by simp [hk1]
      rw [e]
      exact HMod.out.2.2.2.2.2 _ (List.getElem_mem hk1)
     have a1 := cell_later st.b a1
     have a2 := cell_later st.b a2
     have a3 := cell_later st.b a3
     have hnx : (h.2.2.take (k + 1)).map (eraseT h) = (h.2.2.take k).map (eraseT h) ++ [eraseT h (h.2.2.getD k noTxn)] := by
      rw [List.take_succ_eq_append_getElem hk1, List.map_append]
      simp [hk1]
     have hin : ∀ m, m < (h.2.2.getD k noTxn).2.2.length → (h.2.2.getD k noTxn).2.2.getD m noOp ∈ allOps h := fun m hm => by
      have e : h.2.2.getD k noTxn = h.2.2[k] := by simp [hk1]
      rw [e] at hm ⊢
      refine List.mem_flatMap.2 ⟨_, List.getElem_mem hk1, ?_⟩
      rw [show h.2.2[k].2.2.getD m noOp = h.2.2[k].2.2[m] by simp [hm]]
      exact List.getElem_mem hm
     obtain ⟨⟨ts, tf, tl⟩, htt⟩ : ∃ q, h.2.2.getD k noTxn = q := ⟨_, rfl⟩
     rw [htt] at a1 a2 a4 htl hnx hin
     dsimp only at a1 a2 a4 htl hin
     obtain ⟨p3, c3, rfl, -, hops⟩ := a4
     have HO := Lib.hid hops
     have HNx := Lib.hid hnx
     have HIn := Lib.hid hin
     have HLV := Lib.hid hLV
     have ST := Lib.hid st
     have hTb := Blk.new wo 47 [.int .i64 ts, .int .i64 tf, .slice p3 tl.length c3]
     have HTb := Lib.hid hTb
     have HAt := Lib.hid ((Below.refl wo.heap.size wo).alloc (Nat.le_refl _) (.cells #[.int .i64 ts, .int .i64 tf, .slice p3 tl.length c3] 47))
     have HWS : RowKit.Hid (w.heap.size + 1 < G ∧ G < N ∧ N ≤ wo.heap.size) := Lib.hid ⟨st.e, st.d, st.c⟩
     clear hops hnx hin htt hLV st hTb
     go_wp2_with fail
     obtain ⟨wt, hwt⟩ : ∃ q, wo.alloc (.cells #[.int .i64 ts, .int .i64 tf, .slice p3 tl.length c3] 47) = q := ⟨_, rfl⟩
     rw [hwt] at HTb HAt ⊢
     have HW1 : RowKit.Hid (wt.heap.size = wo.heap.size + 1) := Lib.hid (by rw [← hwt]; simp)
     have HMt := Lib.hid (ST.out.m.later HAt.out)
     have HBt := Lib.hid (below_next ST.out.b HAt.out)
     clear hwt a1 a2 a3
     go_loopw [10, 39] (fun l i wr => ∃ m : Nat, m ≤ tl.length ∧ i = .int .i64 m ∧ wr.ownsRow (wo.heap.size + 1) 51 4 l (eraseL h (tl.take m)).length (opsCells (eraseL h (tl.take m))) ∧ Below wt.heap.size wt wr) (fun _ i _ => tl.length - (RowKit.intOf i).toNat)
     case atStart => exact ⟨0, Nat.zero_le _, rfl, World.ownsRow_nil _ _ _ _, Below.refl _ _⟩
     case round =>
      obtain ⟨m, hm, rfl, hown, hbw⟩ := hrel
      by_cases hm1 : m < tl.length
      ·have hb0 := below_next HBt.out hbw
       obtain ⟨go, rfl, q1, q2, q3, q4⟩ := HO.out m hm1
       have q1 := cell_later hb0 q1
       have q2 := cell_later hb0 q2
       have q3 := cell_later hb0 q3
       have q4 := cell_later hb0 q4
       have hnx := eraseL_next h tl m hm1
       have hll2 := HIn.out m hm1
       have hok := HMM.out.op _ hll2
       have hel : (eraseL h (tl.take m)).length ≤ 1000 := by
        have := erase_len h (tl.take m)
        have e : (tl.take m).length ≤ tl.length := by rw [List.length_take]; omega
        omega
       have hto := @toF_at h HMM.out _ hll2
       obtain ⟨⟨ow, ok, od, on⟩, hoo⟩ : ∃ q, tl.getD m noOp = q := ⟨_, rfl⟩
       rw [hoo] at q1 q2 q3 q4 hok hnx hto
       dsimp only at q1 q2 q3 q4 hto
       obtain ⟨I, hI⟩ : ∃ I, eraseL h (tl.take m) = I := ⟨_, rfl⟩
       rw [hI] at hown hnx hel
       have HNo := Lib.hid hnx
       have HTo := Lib.hid hto
       have HOk := Lib.hid hok
       have HOw := Lib.hid (hown.alloc (.cells #[.bool ow, .int .i64 ok, .int .i64 od, .int .i64 on] 51))
       have HOb := Lib.hid (Blk.new wr 51 [.bool ow, .int .i64 ok, .int .i64 od, .int .i64 on])
       have HAq := Lib.hid (hbw.alloc hbw.size (.cells #[.bool ow, .int .i64 ok, .int .i64 od, .int .i64 on] 51))
       have HQd : RowKit.Hid (∀ k, u10.ownBlock = some k → k ≠ wr.heap.size) := Lib.hid (fun k hk e => by have := (hown.lt k hk).2; omega)
       have HQs : RowKit.Hid (wt.heap.size ≤ wr.heap.size) := Lib.hid hbw.size
       clear hown hnx hto hok hll2 hoo hbw hb0 hI
       go_wp2_with fail
       refine (lost14_any (ow, ok, od, on) _).mono ?_
       rintro e w5 ⟨rfl, hb5⟩
       have HO5 := Lib.hid (owns_later HOw.out hb5)
       have HB5 := Lib.hid (below_next HAq.out hb5)
       have HOb5 := Lib.hid (HOb.out.later hb5)
       have b0 := HOb5.out.cell 0 rfl
       have b1 := HOb5.out.cell 1 rfl
       have b2 := HOb5.out.cell 2 rfl
       have b3 := HOb5.out.cell 3 rfl
       have f1 := HOb5.out.frozen 1
       clear hb5 HOw HAq HOb q1 q2 q3 q4
       cases hlo : lostO (ow, ok, od, on) with
       | true =>
        have HN2 : RowKit.Hid (eraseL h (tl.take (m + 1)) = I) := Lib.hid (by rw [HNo.out, if_pos hlo])
        clear HNo hlo b0 b1 b2 b3 f1
        go_wp2_with fail
        go_roundw
        case rel => exact ⟨m + 1, by omega, by go_num, by rw [HN2.out]; exact HO5.out, HB5.out⟩
        case measure => simp [RowKit.intOf]; omega
       | false =>
        have HN2 : RowKit.Hid (eraseL h (tl.take (m + 1)) = I ++ [(ow, newK h ok, od, on)]) := Lib.hid (by rw [HNo.out, if_neg (by rw [hlo]; exact Bool.false_ne_true)]; rfl)
        have hr : 0 ≤ ok ∧ ok ≤ 1000 := by
         have h1 := HOk.out
         have h2 := HMM.out.n1
         unfold okOp inside at h1
         simp at h1
         omega
        have e4 := imap_look (HMt.out.later HB5.out) ok (by omega) (by omega)
        rw [HTo.out hlo] at e4
        have HOs := Lib.hid (HOb5.out.set 1 (.int .i64 (newK h ok)))
        have HO6 : RowKit.Hid ((w5.setCell ⟨wr.heap.size, 1, none⟩ (.int .i64 (newK h ok))).ownsRow (wo.heap.size + 1) 51 4 u10 I.length (opsCells I)) := Lib.hid (owns_box HO5.out (fun k hk e => HQd.out k hk e))
        have HB6 : RowKit.Hid (Below wt.heap.size wt (w5.setCell ⟨wr.heap.size, 1, none⟩ (.int .i64 (newK h ok)))) := Lib.hid (HB5.out.setCell HQs.out _)
        clear HNo hlo HTo
        go_upto_region 15 with fail
        obtain ⟨w6, hw6⟩ : ∃ q, w5.setCell ⟨wr.heap.size, 1, none⟩ (.int .i64 (newK h ok)) = q := ⟨_, rfl⟩
        rw [hw6] at HOs HO6 HB6 ⊢
        clear hw6 b0 b1 b2 b3 f1 e4
        have b0 := HOs.out.cell 0 rfl
        have b1 := HOs.out.cell 1 rfl
        have b2 := HOs.out.cell 2 rfl
        have b3 := HOs.out.cell 3 rfl
        go_wp2_with (at_builtin; refine wpList_append_own _ rfl _ _ 45 rfl (wo.heap.size + 1) 51 i3 (.agg #[.bool false, .int .i64 0, .int .i64 0, .int .i64 0]) 4 32 Tryz.underlying45 hi3 hy0 hy1 hy2 rfl (by decide) _ _ _ rfl (HO6.out.alloc _) ⟨w6.heap.size, 0, none⟩ 1 1 [.bool ow, .int .i64 (newK h ok), .int .i64 od, .int .i64 on] rfl rfl (news_lit _ _ _ _ (by simp)) (by intro u hu; simp at hu; rcases hu with rfl | rfl | rfl | rfl <;> rfl) (by unfold maxLen; omega) (by omega) (by have := HB6.out.size; have := HW1.out; simp; omega) ?_)
        intro v4 w4 hown4 hgrow hnil
        have hb4 : Below wt.heap.size wt w4 := (HB6.out.alloc HB6.out.size _).grown hgrow (by have := HB6.out.size; simp; omega) (fun k hk => by have := (HO6.out.lt k hk).1; have := HW1.out; omega)
        have e9 : opsCells (I ++ [(ow, newK h ok, od, on)]) = opsCells I ++ [.bool ow, .int .i64 (newK h ok), .int .i64 od, .int .i64 on] := by simp [opsCells, opCells]
        have HO4 : RowKit.Hid (w4.ownsRow (wo.heap.size + 1) 51 4 v4 (eraseL h (tl.take (m + 1))).length (opsCells (eraseL h (tl.take (m + 1))))) := Lib.hid (by rw [HN2.out, List.length_append, e9]; exact hown4)
        clear e9
        have HB4 := Lib.hid hb4
        clear hown4 hgrow hnil hb4 b0 b1 b2 b3
        go_wp2_with fail
        go_roundw
        case rel => exact ⟨m + 1, by omega, by go_num, HO4.out, HB4.out⟩
        case measure => simp [RowKit.intOf]; omega
      ·have hke : m = tl.length := by omega
       subst hke
       rw [List.take_length] at hown
       obtain ⟨pl, cl, rfl⟩ := owns_form hown
       have hwx := HWS.out
       have HTq := Lib.hid (HTb.out.later hbw)
       have HO7 := Lib.hid hown
       have hb7 := below_next HAt.out hbw
       have HB7 : RowKit.Hid (Below wo.heap.size wo (wr.setCell ⟨wo.heap.size, 2, none⟩ (.slice pl (eraseL h tl).length cl))) := Lib.hid (hb7.setCell (Nat.le_refl _) _)
       have HT7 := Lib.hid (HTq.out.set 2 (.slice pl (eraseL h tl).length cl))
       have HO8 : RowKit.Hid ((wr.setCell ⟨wo.heap.size, 2, none⟩ (.slice pl (eraseL h tl).length cl)).ownsRow N 51 4 (.slice pl (eraseL h tl).length cl) (eraseL h tl).length (opsCells (eraseL h tl))) := Lib.hid (owns_base (owns_far hown (by show wo.heap.size < wo.heap.size + 1; omega) _) (by omega))
       have n0 := HTq.out.cell 0 rfl
       have n1 := HTq.out.cell 1 rfl
       have n2 := HTq.out.cell 2 rfl
       have n3 := HTq.out.frozen 2
       have hel : (eraseL h tl).length ≤ 1000 := Nat.le_trans (erase_len h tl) htl
       clear hown hbw hb7
       go_upto_region 18 with fail
       obtain ⟨w3, hw3⟩ : ∃ q, wr.setCell ⟨wo.heap.size, 2, none⟩ (.slice pl (eraseL h tl).length cl) = q := ⟨_, rfl⟩
       rw [hw3] at HB7 HT7 HO8 ⊢
       clear hw3 n0 n1 n2 n3
       have n0 := HT7.out.cell 0 rfl
       have n1 := HT7.out.cell 1 rfl
       have n2 := HT7.out.cell 2 rfl
       have o2 := (ST.out.g.later HB7.out).cell 2 rfl
       have hr3 : wo.heap.size < w3.heap.size := HT7.out.lt
       have hg3 : G < w3.heap.size := by omega
       go_wp2_with (at_builtin; refine wpList_append_own _ rfl _ _ 23 rfl N 47 i4 (.agg #[.int .i64 0, .int .i64 0, .slice none 0 0]) 3 40 Tryz.underlying23 hi4 hw0 hw1 hw2 rfl (by decide) vt LV.length (txnsCells LV) rfl ((owns_later ST.out.t HB7.out).alloc _) ⟨w3.heap.size, 0, none⟩ 1 1 [.int .i64 ts, .int .i64 tf, .slice pl (eraseL h tl).length cl] rfl rfl (news_lit _ _ _ _ (by simp)) (by intro u hu; simp at hu; rcases hu with rfl | rfl | rfl <;> rfl) (by have := HLl.out; unfold maxLen; omega) (by have := HLl.out; omega) (by simp; omega) ?_)
       intro v6 w6 hown6 hgrow6 hnil6
       rw [HLl.out] at hown6
       obtain ⟨g6, c6, rfl⟩ := owns_some hown6
       have st6 := of_next ST.out HB7.out HO8.out HLl.out hown6 hgrow6
       have o6 := (ST.out.g.later (HB7.out.alloc HB7.out.size (.cells #[.int .i64 ts, .int .i64 tf, .slice pl (eraseL h tl).length cl] 47))).grown ((owns_later ST.out.t HB7.out).alloc _) hwx.2.1 hgrow6
       have q7 := o6.cell 2 rfl
       have q8 := o6.frozen 2
       have S6 := Lib.hid st6
       clear hown6 hgrow6 hnil6 st6 o6 o2 n0 n1 n2
       go_wp2_with fail
       go_roundw
       case rel => exact ⟨k + 1, _, _, by omega, by go_num, by rw [HNx.out, List.map_append, HLV.out]; rfl, S6.out⟩
       case measure => simp [RowKit.intOf]; omega
    ·have hke : k = h.2.2.length := by omega
     subst hke
     rw [List.take_length] at hLV
     have hen := of_end st hLV
     obtain ⟨ps, cs, rfl⟩ := owns_form st.s
     obtain ⟨pt, ct, rfl⟩ := owns_form st.t
     have e0 := st.g.cell 0 rfl
     have e1 := st.g.cell 1 rfl
     have e2 := st.g.cell 2 rfl
     have y0 := st.r.cell 0 rfl
     have y1 := st.r.cell 1 rfl
     have y2 := st.r.cell 2 rfl
     have g0 := st.r.frozen 0
     have g1 := st.r.frozen 1
     have g2 := st.r.frozen 2
     have HEn := Lib.hid hen
     clear hen st hLV
     go_wp2_with fail
     refine bodyPost_ret (results_ct Tryz.results21 _ _ _ _ _ rfl (load_hist HEn.out.1)) rfl ?_
     exact ⟨_, by rw [HEr.out] <;> rfl, by rw [HE.out]; exact HEn.out.2.1, HEn.out.2.2⟩
end Go.Proofs.YtmgchjddpmmglaaGreatDoor
