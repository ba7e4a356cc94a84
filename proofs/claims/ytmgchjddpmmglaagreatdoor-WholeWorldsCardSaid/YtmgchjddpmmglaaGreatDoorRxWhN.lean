/-
  Layer 17's reference (whole): the world by which a history is made another one, walked. No conditions.
-/
import Derived.Test.YtmgchjddpmmglaaGreatDoorRxWhE
import Derived.Test.YtmgchjddpmmglaaGreatDoorRxWoC
import Derived.Test.YtmgchjddpmmglaaGreatDoorRxWhC
import Derived.Test.YtmgchjddpmmglaaGreatDoorRWs
import Derived.Test.YtmgchjddpmmglaaGreatDoorRxWhI
import Derived.Test.YtmgchjddpmmglaaGreatDoorRxWhT
import Derived.Test.YtmgchjddpmmglaaGreatDoorRxLatV
import Derived.Test.YtmgchjddpmmglaaGreatDoorRxWhM
namespace Go.Proofs.YtmgchjddpmmglaaGreatDoor
open Go.RowKit Go.Lib
theorem worldP_no {h g : HistM} (hn : ¬ (mayH h ∧ wholeP g ∧ mayW h (worldG h g) ∧ makeH h (worldG h g) = g)) : worldP h g = (([], []), false) := by
 unfold worldP
 rw [if_neg hn]
theorem make_tlen (h : HistM) (m : WorldM) (g : HistM) (e : makeH h m = g) : h.2.2.length = g.2.2.length := by
 rw [← e]
 exact (make_len _ _ _).symm
theorem make_ops (h : HistM) (m : WorldM) (g : HistM) (e : makeH h m = g) (k : Nat) (hk : k < h.2.2.length) : (h.2.2.getD k noTxn).2.2.length = (g.2.2.getD k noTxn).2.2.length := by
 rw [← e]
 have h1 := make_at h.2.2 (commitsG h.2.2 m.1) m.2 k hk
 have h2 : (makeH h m).2.2.getD k noTxn = makeT h.2.2 (commitsG h.2.2 m.1) m.2 k := by
  show (makeG h.2.2 _ _).getD k noTxn = _
  rw [List.getD_eq_getElem?_getD, h1]
  rfl
 rw [h2]
 exact (fill_len _ _).symm
theorem fates_bound : ∀ (T U : List TxnM), T.length ≤ 1000 → (fatesG T U).length ≤ 1000 := by
 have h : ∀ (T U : List TxnM), (fatesG T U).length ≤ T.length := by
  intro T
  induction T with
  | nil => intro U; cases U <;> simp [fatesG]
  | cons t r ih =>
   intro U
   cases U with
   | nil => simp [fatesG]
   | cons u s =>
    have := ih s
    rw [fatesG]
    split <;> simp <;> omega
 intro T U hT
 exact Nat.le_trans (h T U) hT
theorem valsO_len : ∀ (L M : List OpM), (valsO L M).length ≤ L.length := by
 intro L
 induction L with
 | nil => intro M; cases M <;> simp [valsO]
 | cons t r ih =>
  intro M
  cases M with
  | nil => simp [valsO]
  | cons u s =>
   have := ih s
   rw [valsO]
   split <;> simp <;> omega
theorem vals_bound : ∀ (T U : List TxnM), T.length ≤ 1000 → (∀ t ∈ T, t.2.2.length ≤ 1000) → (valsG T U).length ≤ 1000000 := by
 have h : ∀ (T U : List TxnM), (∀ t ∈ T, t.2.2.length ≤ 1000) → (valsG T U).length ≤ 1000 * T.length := by
  intro T
  induction T with
  | nil => intro U _; cases U <;> simp [valsG]
  | cons t r ih =>
   intro U ht
   cases U with
   | nil => simp [valsG]
   | cons u s =>
    have h1 := ih s (fun x hx => ht x (List.mem_cons_of_mem _ hx))
    have h2 := valsO_len t.2.2 u.2.2
    have h3 := ht t (List.mem_cons_self ..)
    rw [valsG, List.length_append, List.length_cons]
    omega
 intro T U hT ht
 have := h T U ht
 omega
theorem same_of {w : World} {v u : Value} {E G : HistM} (hv : HistV w v E) (hu : HistV w u G) (hE : Modst E) (hG : Modst G) : Calls Tryz.prog 18 #[v, u] w fun e w' => e = .returned (.bool (decide (E = G))) ∧ Below w.heap.size w w' := by
 obtain ⟨a0, n0, a1, n1, a2, n2, rfl⟩ := histV_form hv
 obtain ⟨b0, m0, b1, m1, b2, m2, rfl⟩ := histV_form hu
 obtain ⟨s0, s1, s2⟩ := histV_parts hv
 obtain ⟨t0, t1, t2⟩ := histV_parts hu
 have h9 := rsame10_any _ _ _ _ _ _ E G _ s0 s1 s2 hE t0 t1 t2 hG
 have e : eqH E G = decide (E = G) := by
  obtain ⟨x1, x2, x3⟩ := E
  obtain ⟨y1, y2, y3⟩ := G
  simp only [eqH, Prod.mk.injEq]
  by_cases h1 : x1 = y1 <;> by_cases h2 : x2 = y2 <;> by_cases h3 : x3 = y3 <;> simp [h1, h2, h3]
 rw [e] at h9
 exact h9
set_option maxRecDepth 100000 in
set_option maxHeartbeats 8000000 in
theorem rworld17_any {w : World} {v u : Value} {h g : HistM} (hv : HistV w v h) (hu : HistV w u g) (hm : Modst h) (hg : Modst g) :
  Calls Tryz.prog 49 #[v, u] w fun e w' => ∃ v', e = .returned (.tuple #[v', .bool (worldP h g).2]) ∧ WorldV w' v' (worldP h g).1 ∧ Below w.heap.size w w' := by
 have H0 := Lib.hid hv
 have G0 := Lib.hid hu
 obtain ⟨v0, v1, v2, rfl, ⟨p0, c0, rfl, -⟩, ⟨p1, c1, rfl, -⟩, ⟨p2, c2, rfl, k1⟩⟩ := hv
 obtain ⟨u0, u1, u2, rfl, ⟨q0, d0, rfl, -⟩, ⟨q1, d1, rfl, -⟩, ⟨q2, d2, rfl, k2⟩⟩ := hu
 have HXh := Lib.hid k1
 have HXg := Lib.hid k2
 have hal := (((Below.refl w.heap.size w).alloc (Nat.le_refl _) (.cells #[.slice p0 h.1.length c0, .slice p1 h.2.1.length c1, .slice p2 h.2.2.length c2] 25)).alloc (by simp) (.cells #[.slice q0 g.1.length d0, .slice q1 g.2.1.length d1, .slice q2 g.2.2.length d2] 25)).alloc (by simp; omega) (.cells #[.slice none 0 0, .slice none 0 0] 64)
 have hbx := ((Blk.new w 25 [.slice p0 h.1.length c0, .slice p1 h.2.1.length c1, .slice p2 h.2.2.length c2]).alloc (.cells #[.slice q0 g.1.length d0, .slice q1 g.2.1.length d1, .slice q2 g.2.2.length d2] 25)).alloc (.cells #[.slice none 0 0, .slice none 0 0] 64)
 have hbw := (Blk.new (w.alloc (.cells #[.slice p0 h.1.length c0, .slice p1 h.2.1.length c1, .slice p2 h.2.2.length c2] 25)) 25 [.slice q0 g.1.length d0, .slice q1 g.2.1.length d1, .slice q2 g.2.2.length d2]).alloc (.cells #[.slice none 0 0, .slice none 0 0] 64)
 have hbr := Blk.new ((w.alloc (.cells #[.slice p0 h.1.length c0, .slice p1 h.2.1.length c1, .slice p2 h.2.2.length c2] 25)).alloc (.cells #[.slice q0 g.1.length d0, .slice q1 g.2.1.length d1, .slice q2 g.2.2.length d2] 25)) 64 [.slice none 0 0, .slice none 0 0]
 simp only [World.size_alloc] at hbw hbr
 have HMh := Lib.hid hm
 have HMg := Lib.hid hg
 have HPh := Lib.hid hbx
 have HPg := Lib.hid hbw
 have HR := Lib.hid hbr
 have HB := Lib.hid hal
 have mh3 : h.2.2.length ≤ 1000 := hm.2.2.1
 have mg3 : g.2.2.length ≤ 1000 := hg.2.2.1
 have HTh := Lib.hid (fun k => ops_bound h.2.2 hm.2.2.2.2.2 k)
 obtain ⟨i0, hi, hz0, hz1, hz2⟩ := info_parts info_truth
 obtain ⟨i1, hj, hj0, hj1, hj2⟩ := info_parts info_val
 clear k1 k2 hm hg hal hbx hbw hbr
 go_enter Tryz.func49, Tryz.ntmps49
 go_upto_region 1 with fail
 obtain ⟨W1, hW1⟩ : ∃ q, (((w.alloc (.cells #[.slice p0 h.1.length c0, .slice p1 h.2.1.length c1, .slice p2 h.2.2.length c2] 25)).alloc (.cells #[.slice q0 g.1.length d0, .slice q1 g.2.1.length d1, .slice q2 g.2.2.length d2] 25)).alloc (.cells #[.slice none 0 0, .slice none 0 0] 64)) = q := ⟨_, rfl⟩
 rw [hW1] at HB HPh HPg HR ⊢
 clear hW1
 have x0 := HPh.out.cell 0 rfl
 have x1 := HPh.out.cell 1 rfl
 have x2 := HPh.out.cell 2 rfl
 have y0 := HPg.out.cell 0 rfl
 have y1 := HPg.out.cell 1 rfl
 have y2 := HPg.out.cell 2 rfl
 have z0 := HR.out.cell 0 rfl
 have s0 := HR.out.frozen 0
 have z1 := HR.out.cell 1 rfl
 have s1 := HR.out.frozen 1
 have zl := HR.out.lt
 go_wp2_with fail
 refine (rmay_v (H0.out.below HB.out) HMh.out).mono ?_
 rintro e W2 ⟨rfl, hb2⟩
 clear x0 y0 x1 y1 x2 y2 z0 z1 s0 s1 zl
 replace HPh := Lib.hid (HPh.out.later hb2)
 replace HPg := Lib.hid (HPg.out.later hb2)
 replace HR := Lib.hid (HR.out.later hb2)
 replace HB := Lib.hid (below_next HB.out hb2)
 clear hb2
 have x0 := HPh.out.cell 0 rfl
 have x1 := HPh.out.cell 1 rfl
 have x2 := HPh.out.cell 2 rfl
 have y0 := HPg.out.cell 0 rfl
 have y1 := HPg.out.cell 1 rfl
 have y2 := HPg.out.cell 2 rfl
 have z0 := HR.out.cell 0 rfl
 have s0 := HR.out.frozen 0
 have z1 := HR.out.cell 1 rfl
 have s1 := HR.out.frozen 1
 have zl := HR.out.lt
 cases hmm : mayH h with
 | false =>
  have HEr := Lib.hid (err_no hmm)
  rw [HEr.out]
  have HE := Lib.hid (@worldP_no h g (by rintro ⟨e, -⟩; rw [hmm] at e; cases e))
  go_wp2_with fail
  refine bodyPost_ret (results_ct Tryz.results49 _ _ _ _ _ rfl (load_world ((HR.out.set 0 (.slice none 0 0)).set 1 (.slice none 0 0)))) rfl ?_
  exact ⟨_, by rw [HE.out] <;> rfl, by rw [HE.out]; exact noW_v _, (HB.out.setCell (by show w.heap.size ≤ w.heap.size + 1 + 1; omega) _).setCell (by show w.heap.size ≤ w.heap.size + 1 + 1; omega) _⟩
 | true =>
  have HEr := Lib.hid (err_yes hmm)
  rw [HEr.out]
  have HMM := Lib.hid hmm
  clear hmm
  go_wp2_with fail
  refine (rwis_any (G0.out.below HB.out) HMg.out).mono ?_
  rintro e W3 ⟨rfl, hb2⟩
  clear x0 y0 x1 y1 x2 y2 z0 z1 s0 s1 zl
  replace HPh := Lib.hid (HPh.out.later hb2)
  replace HPg := Lib.hid (HPg.out.later hb2)
  replace HR := Lib.hid (HR.out.later hb2)
  replace HB := Lib.hid (below_next HB.out hb2)
  clear hb2
  have x0 := HPh.out.cell 0 rfl
  have x1 := HPh.out.cell 1 rfl
  have x2 := HPh.out.cell 2 rfl
  have y0 := HPg.out.cell 0 rfl
  have y1 := HPg.out.cell 1 rfl
  have y2 := HPg.out.cell 2 rfl
  have z0 := HR.out.cell 0 rfl
  have s0 := HR.out.frozen 0
  have z1 := HR.out.cell 1 rfl
  have s1 := HR.out.frozen 1
  have zl := HR.out.lt
  cases hwg : wholeP g with
  | false =>
   have HE := Lib.hid (@worldP_no h g (by rintro ⟨-, e, -⟩; rw [hwg] at e; cases e))
   go_wp2_with fail
   refine bodyPost_ret (results_ct Tryz.results49 _ _ _ _ _ rfl (load_world ((HR.out.set 0 (.slice none 0 0)).set 1 (.slice none 0 0)))) rfl ?_
   exact ⟨_, by rw [HE.out] <;> rfl, by rw [HE.out]; exact noW_v _, (HB.out.setCell (by show w.heap.size ≤ w.heap.size + 1 + 1; omega) _).setCell (by show w.heap.size ≤ w.heap.size + 1 + 1; omega) _⟩
  | true =>
   have HWG := Lib.hid hwg
   clear hwg
   by_cases hl : h.2.2.length = g.2.2.length
   ·have HLn := Lib.hid hl
    have hl1 : ((h.2.2.length : Int) == (g.2.2.length : Int)) = true := beq_iff_eq.2 (by omega)
    have hl2 : ((h.2.2.length : Int) != (g.2.2.length : Int)) = false := by rw [hl]; simp
    have hW3 : w.heap.size + 1 + 1 < W3.heap.size := zl
    have HGn := Lib.hid (Blk.new W3 64 [.slice none 0 0, .slice none 0 0])
    have HAn := Lib.hid ((Below.refl W3.heap.size W3).alloc (Nat.le_refl _) (.cells #[.slice none 0 0, .slice none 0 0] 64))
    clear hl
    go_upto_region 4 with fail
    obtain ⟨W8, hW8⟩ : ∃ q, W3.alloc (.cells #[.slice none 0 0, .slice none 0 0] 64) = q := ⟨_, rfl⟩
    rw [hW8] at HAn HGn ⊢
    have hs7 : W3.heap.size < W8.heap.size := by rw [← hW8]; simp
    obtain ⟨G, hG⟩ : ∃ q, W3.heap.size = q := ⟨_, rfl⟩
    obtain ⟨N, hN⟩ : ∃ q, W8.heap.size = q := ⟨_, rfl⟩
    have hst : WldSt w W8 N N N W3.heap.size W8 [.slice p0 h.1.length c0, .slice p1 h.2.1.length c1, .slice p2 h.2.2.length c2] [.slice q0 g.1.length d0, .slice q1 g.2.1.length d1, .slice q2 g.2.2.length d2] (.slice none 0 0) (.slice none 0 0) [] [] := ⟨World.ownsRow_nil _ _ _ _, World.ownsRow_nil _ _ _ _, HGn.out, HPh.out.later HAn.out, HPg.out.later HAn.out, HR.out.later HAn.out, below_next HB.out HAn.out, fun _ _ _ _ h => h, hW3⟩
    have HST := Lib.hid hst
    have HN8 := Lib.hid hN
    have HGN : RowKit.Hid (W3.heap.size < N) := Lib.hid (by omega)
    rw [hG] at HST HGN ⊢
    clear x0 y0 x1 y1 x2 y2 z0 z1 s0 s1 zl
    clear hst hW8 hs7 hG hN HGn HAn HPh HPg HR HB hl1 hl2 hW3
    go_wp2_with fail
    go_loopw [7] (fun i wr => ∃ (k : Nat) (vc vl : Value), k ≤ h.2.2.length ∧ i = .int .i64 k ∧ N ≤ wr.heap.size ∧ (∀ j, j < k → (h.2.2.getD j noTxn).2.2.length = (g.2.2.getD j noTxn).2.2.length) ∧ WldSt w W8 N N N G wr [.slice p0 h.1.length c0, .slice p1 h.2.1.length c1, .slice p2 h.2.2.length c2] [.slice q0 g.1.length d0, .slice q1 g.2.1.length d1, .slice q2 g.2.2.length d2] vc vl (fatesG (h.2.2.take k) (g.2.2.take k)) (valsG (h.2.2.take k) (g.2.2.take k))) (fun i _ => h.2.2.length - (RowKit.intOf i).toNat)
    case atStart => exact ⟨0, _, _, Nat.zero_le _, rfl, Nat.le_of_eq HN8.out.symm, fun j hj => absurd hj (Nat.not_lt_zero j), by simpa [fatesG, valsG] using HST.out⟩
    case round =>
     obtain ⟨k, vc, vl, hk, rfl, hnw, hsame, st⟩ := hrel
     have x2 := st.h.cell 2 rfl
     by_cases hk1 : k < h.2.2.length
     ·have hk2 : k < g.2.2.length := by rw [← HLn.out]; exact hk1
      obtain ⟨gh, sv, rfl, a1, a2, a3, a4⟩ := HXh.out k hk1
      obtain ⟨gq, su, rfl, b1, b2, b3, b4⟩ := HXg.out k hk2
      have htl := HTh.out k
      have hfs := fates_snoc (h.2.2.take k) (g.2.2.take k) (h.2.2.getD k noTxn) (g.2.2.getD k noTxn) (by rw [List.length_take, List.length_take]; omega)
      have hvs := vals_snocG (h.2.2.take k) (g.2.2.take k) (h.2.2.getD k noTxn) (g.2.2.getD k noTxn) (by rw [List.length_take, List.length_take]; omega)
      rw [← take_snocT h.2.2 k hk1, ← take_snocT g.2.2 k hk2] at hfs hvs
      have hfl : (fatesG (h.2.2.take k) (g.2.2.take k)).length ≤ 1000 := fates_bound _ _ (by rw [List.length_take]; omega)
      have hvl : (valsG (h.2.2.take k) (g.2.2.take k)).length ≤ 1000000 := vals_bound _ _ (by rw [List.length_take]; omega) (fun t ht => by
       obtain ⟨j, hj, e⟩ := List.getElem_of_mem (List.mem_of_mem_take ht)
       have := HTh.out j
       rw [show h.2.2.getD j noTxn = h.2.2[j] by simp [hj], e] at this
       exact this)
      have HOut : RowKit.Hid ((h.2.2.getD k noTxn).2.2.length ≠ (g.2.2.getD k noTxn).2.2.length → worldP h g = (([], []), false)) := Lib.hid (fun hne => worldP_no (by
       rintro ⟨-, -, -, e⟩
       exact hne (make_ops h _ g e k hk1)))
      have HSame : RowKit.Hid ((h.2.2.getD k noTxn).2.2.length = (g.2.2.getD k noTxn).2.2.length → ∀ j, j < k + 1 → (h.2.2.getD j noTxn).2.2.length = (g.2.2.getD j noTxn).2.2.length) := Lib.hid (fun he j hj => by
       by_cases hjk : j < k
       ·exact hsame j hjk
       ·obtain rfl : j = k := by omega
        exact he)
      obtain ⟨⟨ts, tf, tl⟩, ht9⟩ : ∃ q, h.2.2.getD k noTxn = q := ⟨_, rfl⟩
      obtain ⟨⟨us, uf, ul⟩, hu9⟩ : ∃ q, g.2.2.getD k noTxn = q := ⟨_, rfl⟩
      rw [ht9] at a2 a4 htl hfs hvs
      rw [hu9] at b2 b4 hfs hvs
      rw [ht9, hu9] at HOut HSame
      dsimp only at a2 b2 a4 b4 htl hfs hvs HOut HSame
      obtain ⟨p3, c3, rfl, -, hoh⟩ := a4
      obtain ⟨p4, c4, rfl, -, hog⟩ := b4
      have HOh := Lib.hid hoh
      have HOg := Lib.hid hog
      obtain ⟨C, hC⟩ : ∃ q, fatesG (h.2.2.take k) (g.2.2.take k) = q := ⟨_, rfl⟩
      obtain ⟨L0, hL0⟩ : ∃ q, valsG (h.2.2.take k) (g.2.2.take k) = q := ⟨_, rfl⟩
      rw [hC] at hfs hfl st
      rw [hL0] at hvs hvl st
      have HFs := Lib.hid hfs
      have HVs := Lib.hid hvs
      have SD := Lib.hid st
      have HA2 := Lib.hid (fun w' (hb : Below w.heap.size w w') => cell_later hb a2)
      have HA3 := Lib.hid (fun w' (hb : Below w.heap.size w w') => cell_later hb a3)
      have HB2 := Lib.hid (fun w' (hb : Below w.heap.size w w') => cell_later hb b2)
      have HB3 := Lib.hid (fun w' (hb : Below w.heap.size w w') => cell_later hb b3)
      have HNW0 := Lib.hid hnw
      have HS : RowKit.Hid (∀ w', Below wr.heap.size wr w' → w'.cell? ⟨w.heap.size, 2, none⟩ = some (.slice (some ⟨gh, 0, none⟩) h.2.2.length c2) ∧ w'.cell? ⟨w.heap.size + 1, 2, none⟩ = some (.slice (some ⟨gq, 0, none⟩) g.2.2.length d2) ∧ w'.cell? ⟨gh, k * 3 + 2, none⟩ = some (.slice p3 tl.length c3) ∧ w'.cell? ⟨gq, k * 3 + 2, none⟩ = some (.slice p4 ul.length c4) ∧ Below wr.heap.size wr w') := Lib.hid (fun w' hb => ⟨(SD.out.h.later hb).cell 2 rfl, (SD.out.q.later hb).cell 2 rfl, HA3.out _ (below_next SD.out.b hb), HB3.out _ (below_next SD.out.b hb), hb⟩)
      clear st hC hL0 hfs hvs ht9 hu9 hoh hog b1 a1 a2 a3 b2 b3 hsame hnw
      obtain ⟨b7, e1⟩ : ∃ b, ((tl.length : Int) == (ul.length : Int)) = b := ⟨_, rfl⟩
      have e2 : ((tl.length : Int) != (ul.length : Int)) = !b7 := by rw [← e1]; rfl
      have HB7 := Lib.hid e1
      go_upto_region 7 with fail
      refine wpk HS [] (by kernel_rfl) fun hB0 hS0 => ?_
      refine wfr 0 (v := ?_) rfl ?_ ?_
      rotate_left
      ·intro w' hw';go_simp;try with_reducible rfl
      try simp only [Act.put, sq]
      refine wtk 1 15 (v := ?_) rfl ?_ hS0 ?_
      rotate_left
      ·intro w' hw';(try dsimp only at hw');go_simp;try with_reducible rfl
      try simp only [Act.put, sq]
      refine wfr 2 (v := ?_) rfl ?_ ?_
      rotate_left
      ·intro w' hw';go_simp;try with_reducible rfl
      try simp only [Act.put, sq]
      refine wfr 3 (v := ?_) rfl ?_ ?_
      rotate_left
      ·intro w' hw';go_simp;try with_reducible rfl
      try simp only [Act.put, sq]
      refine wfr 4 (v := ?_) rfl ?_ ?_
      rotate_left
      ·intro w' hw';go_simp;try with_reducible rfl
      try simp only [Act.put, sq]
      refine wtk 5 15 (v := ?_) rfl ?_ hS0 ?_
      rotate_left
      ·intro w' hw';(try dsimp only at hw');go_simp;try with_reducible rfl
      try simp only [Act.put, sq]
      refine wfr 6 (v := ?_) rfl ?_ ?_
      rotate_left
      ·intro w' hw';go_simp;try with_reducible rfl
      try simp only [Act.put, sq]
      refine wfr 7 (v := ?_) rfl ?_ ?_
      rotate_left
      ·intro w' hw';go_simp;try with_reducible rfl
      try simp only [Act.put, sq]
      refine wtk 8 15 (v := ?_) rfl ?_ hS0 ?_
      rotate_left
      ·intro w' hw';(try dsimp only at hw');go_simp;try with_reducible rfl
      try simp only [Act.put, sq]
      refine won 9 rfl fun K hK => ?_
      go_simp
      refine hK.out _ _ (fun _ h => h) ?_
      clear hK K
      try simp only [Act.put, sq]
      refine won 10 rfl fun K hK => ?_
      go_simp
      refine hK.out _ _ (fun _ h => h) ?_
      clear hK K
      try simp only [Act.put, sq]
      refine won 11 rfl fun K hK => ?_
      go_simp
      refine hK.out _ _ (fun _ h => h) ?_
      clear hK K
      try simp only [Act.put, sq]
      refine won 12 rfl fun K hK => ?_
      go_simp
      refine hK.out _ _ (fun _ h => h) ?_
      clear hK K
      try simp only [Act.put, sq]
      refine won 13 rfl fun K hK => ?_
      go_simp
      refine hK.out _ _ (fun _ h => h) ?_
      clear hK K
      try simp only [Act.put, sq]
      refine won 14 rfl fun K hK => ?_
      go_simp
      refine hK.out _ _ (fun _ h => h) ?_
      clear hK K
      try simp only [Act.put, sq]
      refine wpAnyM_done (by kernel_rfl) ?_ _
      try simp only [Act.put, sq]
      clear hS0 e1 e2 x2
      obtain ⟨W5, hW5⟩ : ∃ q, wr.drew = q := ⟨_, rfl⟩
      rw [hW5] at hB0 ⊢
      clear hW5
      cases b7 with
      | true =>
       have HLo : RowKit.Hid (tl.length = ul.length) := Lib.hid (by have := eq_of_beq HB7.out; omega)
       have S5 := Lib.hid (SD.out.later hB0)
       have hnw5 : N ≤ W5.heap.size := Nat.le_trans HNW0.out hB0.size
       have x2 := S5.out.h.cell 2 rfl
       have a2 := HA2.out _ S5.out.b
       clear hB0 SD HS HNW0
       have SD := Lib.hid S5.out
       have HNW := Lib.hid hnw5
       clear S5 hnw5
       go_upto_if 57 with fail
       clear x2 a2
       go_cut [7] (fun s7 wx => s7 = .int .i64 (k : Nat) ∧ ∃ vc, N ≤ wx.heap.size ∧ WldSt w W8 N N N G wx [.slice p0 h.1.length c0, .slice p1 h.2.1.length c1, .slice (some ⟨gh, 0, none⟩) h.2.2.length c2] [.slice q0 g.1.length d0, .slice q1 g.2.1.length d1, .slice (some ⟨gq, 0, none⟩) g.2.2.length d2] vc vl (fatesG (h.2.2.take (k + 1)) (g.2.2.take (k + 1))) L0)
       case first =>
        by_cases h3 : tf = 3
        ·subst h3
         obtain ⟨b, hb⟩ : ∃ b, (uf == (1 : Int)) = b := ⟨_, rfl⟩
         have HFn : RowKit.Hid (fatesG (h.2.2.take (k + 1)) (g.2.2.take (k + 1)) = C ++ [b]) := Lib.hid (by rw [HFs.out, if_pos rfl, hb])
         obtain ⟨nc, hnc⟩ : ∃ q, C.length = q := ⟨_, rfl⟩
         rw [hnc] at hfl
         have HCl := Lib.hid hnc
         have hcw := SD.out.c
         rw [hnc] at hcw
         obtain ⟨pc, cc, rfl⟩ := owns_form hcw
         have HS : RowKit.Hid (∀ w', Below W5.heap.size W5 w' → w'.cell? ⟨G, 0, none⟩ = some (.slice pc nc cc) ∧ w'.cell? ⟨w.heap.size + 1, 2, none⟩ = some (.slice (some ⟨gq, 0, none⟩) g.2.2.length d2) ∧ w'.cell? ⟨gq, k * 3 + 1, none⟩ = some (.int .i64 uf) ∧ Below W5.heap.size W5 w') := Lib.hid (fun w' hb => ⟨(SD.out.g.later hb).cell 0 rfl, (SD.out.q.later hb).cell 2 rfl, HB2.out _ (below_next SD.out.b hb), hb⟩)
         clear hnc hcw HFs
         go_upto_region 10 with fail
         refine wpk HS [10, 12] (by kernel_rfl) fun hB0 _ => ?_
         obtain ⟨wd, hwd⟩ : ∃ q, (W5).drew = q := ⟨_, rfl⟩
         rw [hwd] at hB0 ⊢
         clear hwd
         refine wfr 0 (v := ?_) rfl ?_ ?_
         rotate_left
         ·intro w' hw';go_simp;try with_reducible rfl
         try simp only [Act.put, sq]
         refine wtk 1 13 (v := ?_) rfl ?_ (HS.out _ hB0) ?_
         rotate_left
         ·intro w' hw';(try dsimp only at hw');go_simp;try with_reducible rfl
         try simp only [Act.put, sq]
         refine wfr 2 (v := ?_) rfl ?_ ?_
         rotate_left
         ·intro w' hw';go_simp;try with_reducible rfl
         try simp only [Act.put, sq]
         refine wtk 3 13 (v := ?_) rfl ?_ (HS.out _ hB0) ?_
         rotate_left
         ·intro w' hw';(try dsimp only at hw');go_simp;try with_reducible rfl
         try simp only [Act.put, sq]
         refine won 4 rfl fun K hK => ?_
         go_simp
         refine hK.out _ _ (fun _ h => h) ?_
         clear hK K
         try simp only [Act.put, sq]
         refine won 5 rfl fun K hK => ?_
         go_simp
         refine hK.out _ _ (fun _ h => h) ?_
         clear hK K
         try simp only [Act.put, sq]
         refine won 6 rfl fun K hK => ?_
         go_simp
         refine hK.out _ _ (fun _ h => h) ?_
         clear hK K
         try simp only [Act.put, sq]
         have hSn := HS.out _ hB0
         refine won 7 rfl fun K hK => ?_
         go_simp
         refine hK.out _ _ (fun _ h => h) ?_
         clear hK K
         clear hSn
         try simp only [Act.put, sq]
         refine won 8 rfl fun K hK => ?_
         go_simp
         refine hK.out _ _ (fun _ h => h) ?_
         clear hK K
         try simp only [Act.put, sq]
         refine won 9 rfl fun K hK => ?_
         go_simp
         have hA1 := hB0.alloc hB0.size (.cells #[.bool b] 4)
         have HSr := Lib.hid (Blk.new wd 4 [.bool b])
         refine hK.out _ _ (fun _ _ => HS.out _ hA1) ?_
         clear hK K
         try simp only [Act.put, sq]
         obtain ⟨wa1, hwa1⟩ : ∃ q, wd.alloc (.cells #[.bool b] 4) = q := ⟨_, rfl⟩
         obtain ⟨gb1, hgb1⟩ : ∃ q, wd.heap.size = q := ⟨_, rfl⟩
         have hlt1 : W5.heap.size ≤ gb1 := by rw [← hgb1]; exact hB0.size
         rw [hwa1] at hA1
         try rw [hwa1] at HSr
         try simp only [hwa1]
         try rw [hgb1] at HSr
         try simp only [hgb1]
         clear hwa1
         have hsz1 : gb1 < wa1.heap.size := by have := hA1.size; first | exact HSr.out.lt | (have hh := HSr.out.lt gb1 rfl; exact hh.2)
         clear hgb1
         refine won 10 rfl fun K hK => ?_
         refine step_append_own (by rfl) _ _ 61 (by rfl) N 4 i0 (.bool false) 1 1 Tryz.underlying61 hi hz0 hz1 hz2 rfl (by decide) (.slice pc nc cc) nc (bools C) (by rfl) (by have h9 := owns_later SD.out.c hA1; rw [HCl.out] at h9; exact h9) ⟨gb1, 0, none⟩ 1 1 [.bool b] (by rfl) rfl (fun q u hq => by rw [Addr.add_lit, Nat.zero_add]; exact HSr.out.cell q hq) (by intro u hu; simp at hu; subst hu; rfl) (by unfold maxLen; omega) (by omega) (Nat.le_trans HNW.out hA1.size) ?_
         intro v4 w4 hown4 hgrow hnil
         obtain ⟨g4, c9, rfl⟩ := owns_some hown4
         have hown5 : w4.ownsRow N 4 1 (.slice (some ⟨g4, 0, none⟩) (nc + 1) c9) (C.length + 1) (bools C ++ [.bool b]) := by rw [HCl.out]; exact hown4
         have hgb := (SD.out.g.later hA1).grown (owns_later SD.out.c hA1) HGN.out hgrow
         have ST4 := Lib.hid (fate_next SD.out HGN.out (Nat.le_refl _) hA1 hown5 hgrow)
         have r1 := hgb.cell 0 rfl
         have f1 := hgb.frozen 0
         have rl := hgb.lt
         have HN4 : RowKit.Hid (N ≤ (w4.setCell ⟨G, 0, none⟩ (.slice (some ⟨g4, 0, none⟩) (nc + 1) c9)).heap.size) := Lib.hid (by rw [set_size]; exact Nat.le_trans HNW.out (Nat.le_trans hA1.size hgrow.size))
         refine hK.out _ _ (fun h => absurd h (by decide)) ?_
         clear hK K hown4 hown5 hgrow hnil hgb
         try simp only [Act.put, sq]
         refine won 11 rfl fun K hK => ?_
         go_simp
         refine hK.out _ _ (fun _ h => h) ?_
         clear hK K
         try simp only [Act.put, sq]
         refine won 12 rfl fun K hK => ?_
         go_simp
         refine hK.out _ _ (fun h => absurd h (by decide)) ?_
         clear hK K
         try simp only [Act.put, sq]
         clear r1 f1 rl
         refine wpAnyM_done (by kernel_rfl) ?_ _
         try simp only [Act.put, sq]
         go_wp2_with fail
         go_meet
         exact ⟨rfl, _, HN4.out, by rw [HFn.out]; exact ST4.out⟩
        ·have e3 : (tf == 3) = false := beq_eq_false_iff_ne.2 h3
         have HFn : RowKit.Hid (fatesG (h.2.2.take (k + 1)) (g.2.2.take (k + 1)) = C) := Lib.hid (by rw [HFs.out, if_neg h3, List.append_nil])
         clear HFs
         go_wp2_with fail
         go_meet
         exact ⟨rfl, _, HNW.out, by rw [HFn.out]; exact SD.out⟩
       case rest =>
        obtain ⟨rfl, vc', hnw6, st6⟩ := hcut
        obtain ⟨C6, hC6⟩ : ∃ q, fatesG (h.2.2.take (k + 1)) (g.2.2.take (k + 1)) = q := ⟨_, rfl⟩
        rw [hC6] at st6
        have HC6 := Lib.hid hC6
        have ST6 := Lib.hid st6
        have HNW6 := Lib.hid hnw6
        clear hC6 st6 hnw6 SD HNW HFs
        go_wp2_with fail
        go_loopw [8] (fun i wr => ∃ (m : Nat) (vl : Value), m ≤ tl.length ∧ i = .int .i64 m ∧ N ≤ wr.heap.size ∧ WldSt w W8 N N N G wr [.slice p0 h.1.length c0, .slice p1 h.2.1.length c1, .slice (some ⟨gh, 0, none⟩) h.2.2.length c2] [.slice q0 g.1.length d0, .slice q1 g.2.1.length d1, .slice (some ⟨gq, 0, none⟩) g.2.2.length d2] vc' vl C6 (L0 ++ valsO (tl.take m) (ul.take m))) (fun i _ => tl.length - (RowKit.intOf i).toNat)
        case atStart => exact ⟨0, _, Nat.zero_le _, rfl, HNW6.out, by simpa [valsO] using ST6.out⟩
        case round =>
         obtain ⟨m, vl, hm, rfl, hnw, st⟩ := hrel
         have x2 := st.h.cell 2 rfl
         have a3 := HA3.out _ st.b
         by_cases hm1 : m < tl.length
         ·have hm2 : m < ul.length := by rw [← HLo.out]; exact hm1
          obtain ⟨gt, rfl, o1, o2, o3, o4⟩ := HOh.out m hm1
          obtain ⟨gu, rfl, y1, y2, y3, y4⟩ := HOg.out m hm2
          have o3 := cell_later st.b o3
          have HY3 := Lib.hid (fun w' (hb : Below w.heap.size w w') => cell_later hb y3)
          have HY4 := Lib.hid (fun w' (hb : Below w.heap.size w w') => cell_later hb y4)
          have hvn := vals_snocO (tl.take m) (ul.take m) (tl.getD m noOp) (ul.getD m noOp) (by rw [List.length_take, List.length_take]; omega)
          rw [← take_snocO tl m hm1, ← take_snocO ul m hm2] at hvn
          have hvm := valsO_len (tl.take m) (ul.take m)
          rw [List.length_take] at hvm
          obtain ⟨⟨ow, ok, od, on⟩, hoo⟩ : ∃ q, tl.getD m noOp = q := ⟨_, rfl⟩
          obtain ⟨⟨xw, xk, xd, xn⟩, hxx⟩ : ∃ q, ul.getD m noOp = q := ⟨_, rfl⟩
          rw [hoo] at o3 hvn
          rw [hxx] at hvn HY3 HY4
          dsimp only at o3 hvn HY3 HY4
          obtain ⟨L, hL⟩ : ∃ q, L0 ++ valsO (tl.take m) (ul.take m) = q := ⟨_, rfl⟩
          have hLl : L.length ≤ 1001000 := by rw [← hL, List.length_append]; omega
          rw [hL] at st
          have HL := Lib.hid hL
          have HVn0 := Lib.hid hvn
          have SD := Lib.hid st
          have HNW := Lib.hid hnw
          clear st hnw hvn hvm hL hoo hxx o1 o2 o4 y1 y2 y3 y4
          by_cases hod : od = 2
          ·subst hod
           have HVn : RowKit.Hid (L0 ++ valsO (tl.take (m + 1)) (ul.take (m + 1)) = L ++ [(xd, xn)]) := Lib.hid (by rw [HVn0.out, ← List.append_assoc, HL.out]; rfl)
           obtain ⟨nl, hnl⟩ : ∃ q, L.length = q := ⟨_, rfl⟩
           rw [hnl] at hLl
           have HCl := Lib.hid hnl
           have hcw := SD.out.l
           rw [hnl] at hcw
           obtain ⟨pl, cl, rfl⟩ := owns_form hcw
           have HS : RowKit.Hid (∀ w', Below wr.heap.size wr w' → w'.cell? ⟨G, 1, none⟩ = some (.slice pl nl cl) ∧ w'.cell? ⟨w.heap.size + 1, 2, none⟩ = some (.slice (some ⟨gq, 0, none⟩) g.2.2.length d2) ∧ w'.cell? ⟨gq, k * 3 + 2, none⟩ = some (.slice (some ⟨gu, 0, none⟩) ul.length c4) ∧ w'.cell? ⟨gu, m * 4 + 2, none⟩ = some (.int .i64 xd) ∧ w'.cell? ⟨gu, m * 4 + 3, none⟩ = some (.int .i64 xn) ∧ Below wr.heap.size wr w') := Lib.hid (fun w' hb => ⟨(SD.out.g.later hb).cell 1 rfl, (SD.out.q.later hb).cell 2 rfl, HB3.out _ (below_next SD.out.b hb), HY3.out _ (below_next SD.out.b hb), HY4.out _ (below_next SD.out.b hb), hb⟩)
           clear hnl hcw HVn0
           go_upto_region 15 with fail
           clear x2 a3 o3
           refine wpk HS [13, 15] (by kernel_rfl) fun hB0 _ => ?_
           obtain ⟨wd, hwd⟩ : ∃ q, (wr).drew = q := ⟨_, rfl⟩
           rw [hwd] at hB0 ⊢
           clear hwd
           refine wfr 0 (v := ?_) rfl ?_ ?_
           rotate_left
           ·intro w' hw';go_simp;try with_reducible rfl
           try simp only [Act.put, sq]
           refine wtk 1 16 (v := ?_) rfl ?_ (HS.out _ hB0) ?_
           rotate_left
           ·intro w' hw';(try dsimp only at hw');go_simp;try with_reducible rfl
           try simp only [Act.put, sq]
           refine wfr 2 (v := ?_) rfl ?_ ?_
           rotate_left
           ·intro w' hw';go_simp;try with_reducible rfl
           try simp only [Act.put, sq]
           refine wtk 3 16 (v := ?_) rfl ?_ (HS.out _ hB0) ?_
           rotate_left
           ·intro w' hw';(try dsimp only at hw');go_simp;try with_reducible rfl
           try simp only [Act.put, sq]
           refine wfr 4 (v := ?_) rfl ?_ ?_
           rotate_left
           ·intro w' hw';go_simp;try with_reducible rfl
           try simp only [Act.put, sq]
           refine wfr 5 (v := ?_) rfl ?_ ?_
           rotate_left
           ·intro w' hw';go_simp;try with_reducible rfl
           try simp only [Act.put, sq]
           refine wfr 6 (v := ?_) rfl ?_ ?_
           rotate_left
           ·intro w' hw';go_simp;try with_reducible rfl
           try simp only [Act.put, sq]
           refine wtk 7 16 (v := ?_) rfl ?_ (HS.out _ hB0) ?_
           rotate_left
           ·intro w' hw';(try dsimp only at hw');go_simp;try with_reducible rfl
           try simp only [Act.put, sq]
           refine won 8 rfl fun K hK => ?_
           go_simp
           refine hK.out _ _ (fun _ h => h) ?_
           clear hK K
           try simp only [Act.put, sq]
           refine won 9 rfl fun K hK => ?_
           go_simp
           refine hK.out _ _ (fun _ h => h) ?_
           clear hK K
           try simp only [Act.put, sq]
           refine won 10 rfl fun K hK => ?_
           go_simp
           refine hK.out _ _ (fun _ h => h) ?_
           clear hK K
           try simp only [Act.put, sq]
           have hSn := HS.out _ hB0
           refine won 11 rfl fun K hK => ?_
           go_simp
           refine hK.out _ _ (fun _ h => h) ?_
           clear hK K
           clear hSn
           try simp only [Act.put, sq]
           refine won 12 rfl fun K hK => ?_
           go_simp
           have hA1 := hB0.alloc hB0.size (.cells #[.int .i64 xd, .int .i64 xn] 49)
           have HSr := Lib.hid (Blk.new wd 49 [.int .i64 xd, .int .i64 xn])
           refine hK.out _ _ (fun _ _ => HS.out _ hA1) ?_
           clear hK K
           try simp only [Act.put, sq]
           obtain ⟨wa1, hwa1⟩ : ∃ q, wd.alloc (.cells #[.int .i64 xd, .int .i64 xn] 49) = q := ⟨_, rfl⟩
           obtain ⟨gb1, hgb1⟩ : ∃ q, wd.heap.size = q := ⟨_, rfl⟩
           have hlt1 : wr.heap.size ≤ gb1 := by rw [← hgb1]; exact hB0.size
           rw [hwa1] at hA1
           try rw [hwa1] at HSr
           try simp only [hwa1]
           try rw [hgb1] at HSr
           try simp only [hgb1]
           clear hwa1
           have hsz1 : gb1 < wa1.heap.size := by have := hA1.size; first | exact HSr.out.lt | (have hh := HSr.out.lt gb1 rfl; exact hh.2)
           clear hgb1
           refine won 13 rfl fun K hK => ?_
           refine step_append_own (by rfl) _ _ 62 (by rfl) N 49 i1 (.agg #[.int .i64 0, .int .i64 0]) 2 16 Tryz.underlying62 hj hj0 hj1 hj2 rfl (by decide) (.slice pl nl cl) nl (valsC L) (by rfl) (by have h9 := owns_later SD.out.l hA1; rw [HCl.out] at h9; exact h9) ⟨gb1, 0, none⟩ 1 1 [.int .i64 xd, .int .i64 xn] (by rfl) rfl (fun q u hq => by rw [Addr.add_lit, Nat.zero_add]; exact HSr.out.cell q hq) (by intro u hu; simp at hu; rcases hu with rfl | rfl <;> rfl) (by unfold maxLen; omega) (by omega) (Nat.le_trans HNW.out hA1.size) ?_
           intro v4 w4 hown4 hgrow hnil
           obtain ⟨g4, c9, rfl⟩ := owns_some hown4
           have hown5 : w4.ownsRow N 49 2 (.slice (some ⟨g4, 0, none⟩) (nl + 1) c9) (L.length + 1) (valsC L ++ [.int .i64 xd, .int .i64 xn]) := by rw [HCl.out]; exact hown4
           have hgb := (SD.out.g.later hA1).grown (owns_later SD.out.l hA1) HGN.out hgrow
           have ST4 := Lib.hid (val_next (x := (xd, xn)) SD.out HGN.out (Nat.le_refl _) hA1 hown5 hgrow)
           have r1 := hgb.cell 1 rfl
           have f1 := hgb.frozen 1
           have rl := hgb.lt
           have HN4 : RowKit.Hid (N ≤ (w4.setCell ⟨G, 1, none⟩ (.slice (some ⟨g4, 0, none⟩) (nl + 1) c9)).heap.size) := Lib.hid (by rw [set_size]; exact Nat.le_trans HNW.out (Nat.le_trans hA1.size hgrow.size))
           refine hK.out _ _ (fun h => absurd h (by decide)) ?_
           clear hK K hown4 hown5 hgrow hnil hgb
           try simp only [Act.put, sq]
           refine won 14 rfl fun K hK => ?_
           go_simp
           refine hK.out _ _ (fun _ h => h) ?_
           clear hK K
           try simp only [Act.put, sq]
           refine won 15 rfl fun K hK => ?_
           go_simp
           refine hK.out _ _ (fun h => absurd h (by decide)) ?_
           clear hK K
           try simp only [Act.put, sq]
           clear r1 f1 rl
           refine wpAnyM_done (by kernel_rfl) ?_ _
           try simp only [Act.put, sq]
           go_wp2_with fail
           go_roundw
           case rel => exact ⟨m + 1, _, by omega, by go_num, HN4.out, by rw [HVn.out]; exact ST4.out⟩
           case measure => simp [RowKit.intOf]; omega
          ·have e3 : (od == 2) = false := beq_eq_false_iff_ne.2 hod
           have HVn : RowKit.Hid (L0 ++ valsO (tl.take (m + 1)) (ul.take (m + 1)) = L) := Lib.hid (by
            rw [HVn0.out, ← List.append_assoc, HL.out, if_neg (show ¬ lostO (ow, ok, od, on) = true by unfold lostO; simpa using hod), List.append_nil])
           clear HVn0
           go_wp2_with fail
           go_roundw
           case rel => exact ⟨m + 1, _, by omega, by go_num, HNW.out, by rw [HVn.out]; exact SD.out⟩
           case measure => simp [RowKit.intOf]; omega
         ·have hke : m = tl.length := by omega
          subst hke
          have hfull : L0 ++ valsO (tl.take tl.length) (ul.take tl.length) = valsG (h.2.2.take (k + 1)) (g.2.2.take (k + 1)) := by
           rw [List.take_length, HLo.out, List.take_length]
           exact HVs.out.symm
          rw [hfull, ← HC6.out] at st
          have SD := Lib.hid st
          clear st hfull
          go_wp2_with fail
          go_roundw
          case rel => exact ⟨k + 1, _, _, by omega, by go_num, hnw, HSame.out HLo.out, SD.out⟩
          case measure => simp [RowKit.intOf]; omega
      | false =>
       have HE := Lib.hid (HOut.out (fun e => by have := ne_of_beq_false HB7.out; omega))
       have HEn := Lib.hid (SD.out.r.later hB0)
       have z0 := HEn.out.cell 0 rfl
       have z1 := HEn.out.cell 1 rfl
       have s0 := HEn.out.frozen 0
       have s1 := HEn.out.frozen 1
       have zl := HEn.out.lt
       go_wp2_with fail
       refine bodyPost_ret (results_ct Tryz.results49 _ _ _ _ _ rfl (load_world ((HEn.out.set 0 (.slice none 0 0)).set 1 (.slice none 0 0)))) rfl ?_
       exact ⟨_, by rw [HE.out] <;> rfl, by rw [HE.out]; exact noW_v _, ((below_next SD.out.b hB0).setCell (by show w.heap.size ≤ w.heap.size + 1 + 1; omega) _).setCell (by show w.heap.size ≤ w.heap.size + 1 + 1; omega) _⟩
     ·have hke : k = h.2.2.length := by omega
      subst hke
      have hT1 : g.2.2.take h.2.2.length = g.2.2 := by rw [HLn.out]; exact List.take_length
      rw [List.take_length, hT1] at st
      clear hT1
      obtain ⟨pc, cc, rfl⟩ := owns_form st.c
      obtain ⟨pl, cl, rfl⟩ := owns_form st.l
      have hwv : WorldV wr (.agg #[.slice pc (fatesG h.2.2 g.2.2).length cc, .slice pl (valsG h.2.2 g.2.2).length cl]) (worldG h g) := ⟨_, _, rfl, own_bools st.c rfl, own_vals st.l rfl⟩
      have hlw : (worldG h g).1.length ≤ 1000000 ∧ (worldG h g).2.length ≤ 1000000 := ⟨Nat.le_trans (fates_bound _ _ (by omega)) (by omega), vals_bound _ _ (by omega) (fun t ht => by
       obtain ⟨j, hj, e⟩ := List.getElem_of_mem ht
       have := HTh.out j
       rw [show h.2.2.getD j noTxn = h.2.2[j] by simp [hj], e] at this
       exact this)⟩
      have hend := world_end st
      have HWG2 : RowKit.Hid (worldG h g = (fatesG h.2.2 g.2.2, valsG h.2.2 g.2.2)) := Lib.hid rfl
      have HWv := Lib.hid hwv
      have HLw := Lib.hid hlw
      have HEn := Lib.hid hend
      obtain ⟨C, hC⟩ : ∃ q, fatesG h.2.2 g.2.2 = q := ⟨_, rfl⟩
      obtain ⟨L, hL⟩ : ∃ q, valsG h.2.2 g.2.2 = q := ⟨_, rfl⟩
      rw [hC, hL] at HWv HEn HWG2 st
      have SD := Lib.hid st
      have HMy := Lib.hid (fun w' (hb : Below wr.heap.size wr w') => rmayw16_any (H0.out.below (below_next SD.out.b hb)) (HWv.out.below hb) HMh.out HLw.out)
      have HS : RowKit.Hid (∀ w', Below wr.heap.size wr w' → w'.cell? ⟨w.heap.size, 0, none⟩ = some (.slice p0 h.1.length c0) ∧ w'.cell? ⟨w.heap.size, 1, none⟩ = some (.slice p1 h.2.1.length c1) ∧ w'.cell? ⟨w.heap.size, 2, none⟩ = some (.slice p2 h.2.2.length c2) ∧ w'.cell? ⟨w.heap.size + 1, 0, none⟩ = some (.slice q0 g.1.length d0) ∧ w'.cell? ⟨w.heap.size + 1, 1, none⟩ = some (.slice q1 g.2.1.length d1) ∧ w'.cell? ⟨w.heap.size + 1, 2, none⟩ = some (.slice q2 g.2.2.length d2) ∧ w'.cell? ⟨G, 0, none⟩ = some (.slice pc C.length cc) ∧ w'.cell? ⟨G, 1, none⟩ = some (.slice pl L.length cl) ∧ Below wr.heap.size wr w') := Lib.hid (fun w' hb => ⟨(SD.out.h.later hb).cell 0 rfl, (SD.out.h.later hb).cell 1 rfl, (SD.out.h.later hb).cell 2 rfl, (SD.out.q.later hb).cell 0 rfl, (SD.out.q.later hb).cell 1 rfl, (SD.out.q.later hb).cell 2 rfl, (SD.out.g.later hb).cell 0 rfl, (SD.out.g.later hb).cell 1 rfl, hb⟩)
      clear st hwv hlw hend hC hL
      cases hmw : mayW h (worldG h g) with
      | false =>
       rw [hmw] at HMy
       have HE := Lib.hid (@worldP_no h g (by rintro ⟨-, -, e, -⟩; rw [hmw] at e; cases e))
       clear hmw
       go_upto_region 16 with fail
       clear x2
       refine wpk HS [] (by kernel_rfl) fun hB0 hS0 => ?_
       refine wtk 0 12 (v := ?_) rfl ?_ hS0 ?_
       rotate_left
       ·intro w' hw';(try dsimp only at hw');go_simp;try with_reducible rfl
       try simp only [Act.put, sq]
       refine won 1 rfl fun K hK => ?_
       go_simp
       refine hK.out _ _ (fun _ h => h) ?_
       clear hK K
       try simp only [Act.put, sq]
       refine won 2 rfl fun K hK => ?_
       go_simp
       refine (HMy.out _ hB0).mono ?_
       rintro e w1 ⟨rfl, hb1⟩
       have hB1 := below_next hB0 hb1
       have hS1 := HS.out _ hB1
       refine hK.out _ _ (fun _ _ => hS1) ?_
       clear hK K hS0
       try simp only [Act.put, sq]
       refine won 3 rfl fun K hK => ?_
       go_simp
       refine hK.out _ _ (fun _ h => h) ?_
       clear hK K
       try simp only [Act.put, sq]
       refine won 4 rfl fun K hK => ?_
       go_simp
       refine hK.out _ _ (fun _ h => h) ?_
       clear hK K
       try simp only [Act.put, sq]
       refine wpAnyM_free 5 (v := undef) rfl (by kernel_rfl) (by kernel_rfl) (by kernel_rfl) (fun _ _ _ h => h) (Or.inr ⟨by rfl, rfl⟩) ?_
       try simp only [Act.put, sq]
       refine wpAnyM_free 6 (v := undef) rfl (by kernel_rfl) (by kernel_rfl) (by kernel_rfl) (fun _ _ _ h => h) (Or.inr ⟨by rfl, rfl⟩) ?_
       try simp only [Act.put, sq]
       refine wpAnyM_free 7 (v := undef) rfl (by kernel_rfl) (by kernel_rfl) (by kernel_rfl) (fun _ _ _ h => h) (Or.inr ⟨by rfl, rfl⟩) ?_
       try simp only [Act.put, sq]
       refine won 8 rfl fun K hK => ?_
       go_simp
       refine hK.out _ _ (fun _ h => h) ?_
       clear hK K
       try simp only [Act.put, sq]
       refine won 9 rfl fun K hK => ?_
       go_simp
       refine hK.out _ _ (fun _ _ => hS1) ?_
       clear hK K
       try simp only [Act.put, sq]
       refine won 10 rfl fun K hK => ?_
       go_simp
       refine hK.out _ _ (fun _ h => h) ?_
       clear hK K
       try simp only [Act.put, sq]
       refine won 11 rfl fun K hK => ?_
       go_simp
       refine hK.out _ _ (fun _ h => h) ?_
       clear hK K
       try simp only [Act.put, sq]
       refine wpAnyM_done (by kernel_rfl) ?_ _
       try simp only [Act.put, sq]
       clear hS1
       have z0 := (SD.out.r.later hB1).cell 0 rfl
       have z1 := (SD.out.r.later hB1).cell 1 rfl
       have s0 := (SD.out.r.later hB1).frozen 0
       have s1 := (SD.out.r.later hB1).frozen 1
       have zl := (SD.out.r.later hB1).lt
       go_wp2_with fail
       refine bodyPost_ret (results_ct Tryz.results49 _ _ _ _ _ rfl (load_world (((SD.out.r.later hB1).set 0 (.slice none 0 0)).set 1 (.slice none 0 0)))) rfl ?_
       exact ⟨_, by rw [HE.out] <;> rfl, by rw [HE.out]; exact noW_v _, ((below_next SD.out.b hB1).setCell (by show w.heap.size ≤ w.heap.size + 1 + 1; omega) _).setCell (by show w.heap.size ≤ w.heap.size + 1 + 1; omega) _⟩
      | true =>
       rw [hmw] at HMy
       have HRw := Lib.hid (fun w' (hb : Below wr.heap.size wr w') => raw17_any (H0.out.below (below_next SD.out.b hb)) (HWv.out.below hb) HMh.out HLw.out ((mayW_iff _ _).1 hmw))
       have HMk : RowKit.Hid (Modst (makeH h (worldG h g))) := Lib.hid (make_modst2 HMh.out)
       have HSm := Lib.hid (fun w' v (hb : Below wr.heap.size wr w') (hv : HistV w' v (makeH h (worldG h g))) => same_of hv (G0.out.below (below_next SD.out.b hb)) HMk.out HMg.out)
       have HMw := Lib.hid hmw
       clear hmw
       obtain ⟨E, hE⟩ : ∃ q, makeH h (worldG h g) = q := ⟨_, rfl⟩
       rw [hE] at HRw HSm
       have HEe := Lib.hid hE
       clear hE
       obtain ⟨b9, hb9⟩ : ∃ b, decide (E = g) = b := ⟨_, rfl⟩
       rw [hb9] at HSm
       have HBq := Lib.hid hb9
       clear hb9
       go_upto_region 16 with fail
       clear x2
       refine wpk HS [] (by kernel_rfl) fun hB0 hS0 => ?_
       refine wtk 0 12 (v := ?_) rfl ?_ hS0 ?_
       rotate_left
       ·intro w' hw';(try dsimp only at hw');go_simp;try with_reducible rfl
       try simp only [Act.put, sq]
       refine won 1 rfl fun K hK => ?_
       go_simp
       refine hK.out _ _ (fun _ h => h) ?_
       clear hK K
       try simp only [Act.put, sq]
       refine won 2 rfl fun K hK => ?_
       go_simp
       refine (HMy.out _ hB0).mono ?_
       rintro e w1 ⟨rfl, hb1⟩
       have hB1 := below_next hB0 hb1
       have hS1 := HS.out _ hB1
       refine hK.out _ _ (fun _ _ => hS1) ?_
       clear hK K hS0
       try simp only [Act.put, sq]
       refine won 3 rfl fun K hK => ?_
       go_simp
       refine hK.out _ _ (fun _ h => h) ?_
       clear hK K
       try simp only [Act.put, sq]
       refine won 4 rfl fun K hK => ?_
       go_simp
       refine hK.out _ _ (fun _ h => h) ?_
       clear hK K
       try simp only [Act.put, sq]
       refine wtk 5 12 (v := ?_) rfl ?_ hS1 ?_
       rotate_left
       ·intro w' hw';(try dsimp only at hw');go_simp;try with_reducible rfl
       try simp only [Act.put, sq]
       refine wtk 6 12 (v := ?_) rfl ?_ hS1 ?_
       rotate_left
       ·intro w' hw';(try dsimp only at hw');go_simp;try with_reducible rfl
       try simp only [Act.put, sq]
       refine wtk 8 12 (v := ?_) rfl ?_ hS1 ?_
       rotate_left
       ·intro w' hw';(try dsimp only at hw');go_simp;try with_reducible rfl
       try simp only [Act.put, sq]
       refine won 7 rfl fun K hK => ?_
       go_simp
       refine (HRw.out _ hB1).mono ?_
       rintro e w2 ⟨v9, rfl, hv9, hb2⟩
       have hB2 := below_next hB1 hb2
       have hS2 := HS.out _ hB2
       obtain ⟨a0, n0, a1, n1, a2, n2, rfl⟩ := histV_form hv9
       have HV9 := Lib.hid hv9
       clear hv9
       refine hK.out _ _ (fun _ _ => hS2) ?_
       clear hK K hS1
       try simp only [Act.put, sq]
       refine won 9 rfl fun K hK => ?_
       go_simp
       refine (HSm.out _ _ hB2 HV9.out).mono ?_
       rintro e w3 ⟨rfl, hb3⟩
       have hB3 := below_next hB2 hb3
       have hS3 := HS.out _ hB3
       refine hK.out _ _ (fun _ _ => hS3) ?_
       clear hK K hS2
       try simp only [Act.put, sq]
       refine won 10 rfl fun K hK => ?_
       go_simp
       refine hK.out _ _ (fun _ h => h) ?_
       clear hK K
       try simp only [Act.put, sq]
       refine won 11 rfl fun K hK => ?_
       go_simp
       refine hK.out _ _ (fun _ h => h) ?_
       clear hK K
       try simp only [Act.put, sq]
       refine wpAnyM_done (by kernel_rfl) ?_ _
       try simp only [Act.put, sq]
       clear hS3
       cases b9 with
       | true =>
        have heq : E = g := of_decide_eq_true HBq.out
        have HE : RowKit.Hid (worldP h g = (worldG h g, true)) := Lib.hid (by
         unfold worldP
         rw [if_pos ⟨HMM.out, HWG.out, HMw.out, HEe.out.trans heq⟩])
        clear heq
        have HEk := Lib.hid (world_end (SD.out.later hB3))
        have g0 := ((SD.out.later hB3).g).cell 0 rfl
        have g1 := ((SD.out.later hB3).g).cell 1 rfl
        have z0 := ((SD.out.later hB3).r).cell 0 rfl
        have z1 := ((SD.out.later hB3).r).cell 1 rfl
        have s0 := ((SD.out.later hB3).r).frozen 0
        have s1 := ((SD.out.later hB3).r).frozen 1
        have zl := ((SD.out.later hB3).r).lt
        go_wp2_with fail
        refine bodyPost_ret (results_ct Tryz.results49 _ _ _ _ _ rfl (load_world HEk.out.1)) rfl ?_
        exact ⟨_, by rw [HE.out] <;> rfl, by rw [HE.out, HWG2.out]; exact HEk.out.2.1, HEk.out.2.2⟩
       | false =>
        have heq : ¬ E = g := of_decide_eq_false HBq.out
        have HE := Lib.hid (@worldP_no h g (by rintro ⟨-, -, -, e⟩; exact heq (HEe.out.symm.trans e)))
        clear heq
        have z0 := (SD.out.r.later hB3).cell 0 rfl
        have z1 := (SD.out.r.later hB3).cell 1 rfl
        have s0 := (SD.out.r.later hB3).frozen 0
        have s1 := (SD.out.r.later hB3).frozen 1
        have zl := (SD.out.r.later hB3).lt
        go_wp2_with fail
        refine bodyPost_ret (results_ct Tryz.results49 _ _ _ _ _ rfl (load_world (((SD.out.r.later hB3).set 0 (.slice none 0 0)).set 1 (.slice none 0 0)))) rfl ?_
        exact ⟨_, by rw [HE.out] <;> rfl, by rw [HE.out]; exact noW_v _, ((below_next SD.out.b hB3).setCell (by show w.heap.size ≤ w.heap.size + 1 + 1; omega) _).setCell (by show w.heap.size ≤ w.heap.size + 1 + 1; omega) _⟩
   ·have hl1 : ((h.2.2.length : Int) == (g.2.2.length : Int)) = false := beq_eq_false_iff_ne.2 (fun e => hl (by omega))
    have hl2 : ((h.2.2.length : Int) != (g.2.2.length : Int)) = true := bne_iff_ne.2 (fun e => hl (by omega))
    have HE := Lib.hid (@worldP_no h g (by rintro ⟨-, -, -, e⟩; exact hl (make_tlen h _ g e)))
    go_wp2_with fail
    refine bodyPost_ret (results_ct Tryz.results49 _ _ _ _ _ rfl (load_world ((HR.out.set 0 (.slice none 0 0)).set 1 (.slice none 0 0)))) rfl ?_
    exact ⟨_, by rw [HE.out] <;> rfl, by rw [HE.out]; exact noW_v _, (HB.out.setCell (by show w.heap.size ≤ w.heap.size + 1 + 1; omega) _).setCell (by show w.heap.size ≤ w.heap.size + 1 + 1; omega) _⟩
end Go.Proofs.YtmgchjddpmmglaaGreatDoor
