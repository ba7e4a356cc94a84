/-
  Layer 10 (pair): History, walked. Conditions: unicode/utf8's two tables hold what their initialisers lay; names of at most 1,000,000 bytes.
-/
import Derived.Test.YtmgchjddpmmglaaGreatDoorRWj
import Derived.LaidEqlPtr
namespace Go.Proofs.YtmgchjddpmmglaaGreatDoor
open Go.RowKit Go.Lib Go.Maps Go.WideMaps
theorem hist_err (l : List EventM) {Lm : List DraftM} {n er : Int} (h : madeP l [] = (Lm, n, er)) (he : er ≠ 0) : histP l = (noH, n, er) := by
 unfold histP
 rw [h]
 exact if_pos he
theorem find_first (p : DraftM → Bool) : ∀ (L : List DraftM) (i : Nat), i < L.length → p (L.getD i noD) = true → (∀ j, j < i → p (L.getD j noD) = false) → L.find? p = some (L.getD i noD)
 | [], i, h, _, _ => absurd h (Nat.not_lt_zero i)
 | d :: L, 0, _, h, _ => by
  have h' : p d = true := h
  rw [List.find?_cons, h']
  rfl
 | d :: L, i + 1, hi, h, hb => by
  have h0 : p d = false := hb 0 (Nat.succ_pos i)
  rw [List.find?_cons, h0]
  exact find_first p L i (by simpa using hi) h (fun j hj => hb (j + 1) (Nat.succ_lt_succ hj))
theorem find_never (p : DraftM → Bool) (L : List DraftM) (h : ∀ j, j < L.length → p (L.getD j noD) = false) : L.find? p = none := by
 rw [List.find?_eq_none]
 intro d hd
 obtain ⟨j, hj, rfl⟩ := List.getElem_of_mem hd
 have := h j hj
 simpa [hj] using this
theorem hist_end (l : List EventM) {Lm : List DraftM} {n : Int} (h : madeP l [] = (Lm, n, 0)) (i : Nat) (hi : i < Lm.length) (ho : (Lm.getD i noD).op = true) (hb : ∀ j, j < i → (Lm.getD j noD).op = false) : histP l = (noH, (Lm.getD i noD).ln, 12) := by
 have hf := find_first (·.op) Lm i hi ho hb
 unfold histP
 rw [h]
 simp only [ne_eq, not_true, if_false]
 rw [hf]
theorem hist_ok (l : List EventM) {Lm : List DraftM} {n : Int} (h : madeP l [] = (Lm, n, 0)) (hb : ∀ j, j < Lm.length → (Lm.getD j noD).op = false) : histP l = ((sortedN (namesD Lm), sortedN (keysD Lm), Lm.map (txnD (sortedN (namesD Lm)) (sortedN (keysD Lm)))), 0, 0) := by
 have hf := find_never (·.op) Lm hb
 unfold histP
 rw [h]
 simp only [ne_eq, not_true, if_false]
 rw [hf]
theorem results_cell3' {fn : Func} {a t : Nat} {u v : Tmp} (h : fn.results = #[.cell a t, .tmp u, .tmp v]) (tmps : Array Value) (P : Program) (w : World) (A : Addr) (x : Value) (ha : tmps.getD a undef = .pointer (some A)) (hl : (loadVar t A).run P w = .ok x w) :
  (results fn tmps).run P w = .ok (.tuple #[x, tmps.getD u undef, tmps.getD v undef]) w := by
 have ha' : tmps[a]?.getD undef = .pointer (some A) := by simpa using ha
 simp [results, h, ha', hl, asAddr]
theorem ret_h {w : World} {b : Nat} {v0 v1 v2 : Value} (tmps : Array Value) (v3 v4 : Value) (h : Blk w b 25 [v0, v1, v2]) (h2 : tmps.getD 2 undef = .pointer (some ⟨b, 0, none⟩)) (h3 : tmps.getD 3 undef = v3) (h4 : tmps.getD 4 undef = v4) :
  (results Tryz.f70 tmps).run Tryz.prog w = .ok (.tuple #[.agg #[v0, v1, v2], v3, v4]) w := by
 have hr : w.rangeAt b 0 [v0, v1, v2] := fun j v hj => by rw [Nat.zero_add]; exact h.cell j hj
 have hl := run_loadVar_mid (P := Tryz.prog) w b 0 25 [v0, v1, v2] _ hr Tryz.underlying25 rfl (by kernel_rfl)
 rw [← h3, ← h4]
 exact results_cell3' Tryz.results70 tmps _ w _ _ h2 hl
theorem info_ptx : (Tryz.prog.info? 47).map (fun i => (i.zero, i.size, i.bytes)) = some (some (.agg #[.int .i64 0, .int .i64 0, .slice none 0 0]), 3, 40) := by kernel_rfl
theorem ones_txc (a b : Int) (p : Option Addr) (n c : Nat) : ∀ u ∈ ([.int .i64 a, .int .i64 b, .slice p n c] : List Value), u.oneCell' = true := by
 intro u hu
 simp at hu
 rcases hu with h | h | h <;> subst h <;> rfl
theorem owns_pos {w : World} {base size n : Nat} {e : TypeId} {v : Value} {xs : List Value} (h : w.ownsRow base e size v n xs) (hn : 0 < n) : ∃ g cap, v = .slice (some ⟨g, 0, none⟩) n cap := by
 rcases h.2 with ⟨-, h2⟩ | ⟨g, cap, cur, rfl, -⟩
 ·omega
 ·exact ⟨g, cap, rfl⟩
theorem info_dr0 : (Tryz.prog.info? 137).map (fun i => i.size) = some 6 := by kernel_rfl
theorem info_dr : ∃ j, Tryz.prog.info? 137 = some j ∧ j.size ≠ 0 := by
 have h := info_dr0
 cases hj : Tryz.prog.info? 137 with
 | none => rw [hj] at h; cases h
 | some j =>
  rw [hj] at h
  have h2 : j.size = 6 := by simpa using h
  exact ⟨j, rfl, by omega⟩
theorem ptr_same (w : World) (g : Nat) : (binOp .eql 135 (.pointer (some ⟨g, 0, none⟩)) (.pointer (some ⟨g, 0, none⟩))).run Tryz.prog w = .ok (.bool true) w := by
 obtain ⟨j, h1, _⟩ := info_dr
 exact run_eql_ptr_same w _ Tryz.underlying135 h1
theorem ptr_other {w : World} {g g' : Nat} {t t' : TypeId} {cs cs' : List Value} (hne : g' ≠ g) (h' : Blk w g' t' cs') (h : Blk w g t cs) : (binOp .eql 135 (.pointer (some ⟨g', 0, none⟩)) (.pointer (some ⟨g, 0, none⟩))).run Tryz.prog w = .ok (.bool false) w := by
 obtain ⟨j, h1, h2⟩ := info_dr
 exact run_eql_ptr_other w Tryz.underlying135 h1 h2 (fun e => hne (by injection e)) h' h
theorem texts_form {w : World} {v : Value} {T : List (List UInt8)} (h : Texts w v T) : ∃ p c, v = .slice p T.length c := by
 obtain ⟨p, c, rfl, -⟩ := h
 exact ⟨p, c, rfl⟩
theorem store3 {w : World} {b : Nat} {t : TypeId} {a0 a1 a2 : Value} (h : Blk w b t [a0, a1, a2]) (x y z : Value) :
  Blk (((w.setCell ⟨b, 0, none⟩ x).setCell ⟨b, 1, none⟩ y).setCell ⟨b, 2, none⟩ z) b t [x, y, z] ∧ (∀ k, k ≠ b → (((w.setCell ⟨b, 0, none⟩ x).setCell ⟨b, 1, none⟩ y).setCell ⟨b, 2, none⟩ z).heap[k]? = w.heap[k]?) ∧ (((w.setCell ⟨b, 0, none⟩ x).setCell ⟨b, 1, none⟩ y).setCell ⟨b, 2, none⟩ z).heap.size = w.heap.size :=
 ⟨((h.set 0 x).set 1 y).set 2 z, fun k hk => by rw [Below.heap_setCell _ _ _ _ hk, Below.heap_setCell _ _ _ _ hk, Below.heap_setCell _ _ _ _ hk], by rw [set_size, set_size, set_size]⟩
theorem histV_no (w : World) : HistV w (.agg #[.slice none 0 0, .slice none 0 0, .slice none 0 0]) noH := ⟨_, _, _, rfl, texts_none w, texts_none w, ⟨none, 0, rfl, fun j hj => absurd hj (Nat.not_lt_zero j)⟩⟩
set_option maxRecDepth 100000 in
set_option maxHeartbeats 8000000 in
theorem hist10_any {w : World} (v : Value) (L : List EventM) (hv : EvsS w v L) (hL : L.length ≤ 1000) (hM : ∀ x ∈ L, x.2.1.length ≤ 1000000 ∧ x.2.2.1.length ≤ 1000000) (hT : Lib.Utf8Tabs 1 2 w) :
  Calls Tryz.prog 70 #[v] w fun e w' => ∃ hv, e = .returned (.tuple #[hv, .int .i64 (histP L).2.1, .int .i64 (histP L).2.2]) ∧ HistV w' hv (histP L).1 ∧ Below w.heap.size w w' := by
 have hal := (Below.refl w.heap.size w).alloc (Nat.le_refl _) (.cells #[.slice none 0 0, .slice none 0 0, .slice none 0 0] 25)
 have HMd := Lib.hid (made10_any (w := w.alloc (.cells #[.slice none 0 0, .slice none 0 0, .slice none 0 0] 25)) v L (hv.below hal) hL hM (Utf8Tabs_below hT hal))
 have HG := Lib.hid (made_good L [] good_nil)
 have HT := Lib.hid hT
 have HAL := Lib.hid hal
 have HR1 := Lib.hid (Blk.new w 25 [.slice none 0 0, .slice none 0 0, .slice none 0 0])
 have hs1 : (w.alloc (.cells #[.slice none 0 0, .slice none 0 0, .slice none 0 0] 25)).heap.size = w.heap.size + 1 := by simp
 obtain ⟨⟨Lm, n, er⟩, hr⟩ : ∃ r, madeP L [] = r := ⟨_, rfl⟩
 rw [hr] at HMd HG
 have HMP := Lib.hid hr
 clear hv hM hT hal hr
 go_enter Tryz.func70, Tryz.ntmps70
 go_wp2_with fail
 refine HMd.out.mono ?_
 rintro e wb ⟨gm, lv, bo, bz, bk, E, rfl, hmi, hb2⟩
 clear HMd
 obtain ⟨wa, hwa⟩ : ∃ wa, w.alloc (.cells #[.slice none 0 0, .slice none 0 0, .slice none 0 0] 25) = wa := ⟨_, rfl⟩
 have HR1' : Blk wa w.heap.size 25 [.slice none 0 0, .slice none 0 0, .slice none 0 0] := by rw [← hwa]; exact HR1.out
 rw [hwa] at hmi hb2 HAL hs1
 clear HR1 hwa
 have HR2 := Lib.hid (HR1'.later hb2)
 have HRA := Lib.hid HR1'
 clear HR1'
 obtain ⟨gr, hgr⟩ : ∃ g, w.heap.size = g := ⟨_, rfl⟩
 rw [hgr] at HR2 HAL hs1 HRA
 try simp only [hgr]
 try dsimp only at hmi HG
 by_cases her : er = 0
 ·subst her
  have hG : GoodL Lm := HG.out
  obtain ⟨ks, c1, n1, m1⟩ := hmi.ses
  obtain ⟨kk, c2, n2, m2⟩ := hmi.key
  have k1l := sorted_count ks (namesD Lm) n1 m1 (names_good hG)
  have k2l := sorted_count kk (keysD Lm) n2 m2 (keys_good hG)
  have k1f := hG.names
  have k2f := hG.keys
  have HB02 : RowKit.Hid (Below w.heap.size w wb) := Lib.hid (by rw [hgr]; exact HAL.out.trans (hb2.mono (by omega)))
  have HN1 := Lib.hid (fun w' (hb : Below wb.heap.size wb w') => names_any (w := w') (namesD Lm) (c1.at (hb.block _ c1.lt)) n1 m1 (by omega) (fun x hx => name_len x (names_good hG x ((m1 x).1 hx))) (Utf8Tabs_below HT.out (HB02.out.trans (hb.mono HB02.out.size))))
  have HN2 := Lib.hid (fun w' (hb : Below wb.heap.size wb w') => names_any (w := w') (keysD Lm) (c2.at (hb.block _ c2.lt)) n2 m2 (by omega) (fun x hx => name_len x (keys_good hG x ((m2 x).1 hx))) (Utf8Tabs_below HT.out (HB02.out.trans (hb.mono HB02.out.size))))
  obtain ⟨S, hS⟩ : ∃ S, sortedN (namesD Lm) = S := ⟨_, rfl⟩
  obtain ⟨K, hK⟩ : ∃ K, sortedN (keysD Lm) = K := ⟨_, rfl⟩
  have HS' := Lib.hid hS
  have HK' := Lib.hid hK
  rw [hS] at HN1
  rw [hK] at HN2
  have HMI := Lib.hid hmi
  clear n1 m1 n2 m2 k1l k2l k1f k2f hS hK c1 c2
  go_upto_region 5 with fail
  go_cut [8] from 24 to 34 (fun s8 wx => ∃ gh sv kv, s8 = .pointer (some ⟨gh, 0, none⟩) ∧ Blk wx gh 25 [sv, kv, .slice none 0 0] ∧ wb.heap.size ≤ gh ∧ TextsOff wx sv S gh wb.heap.size ∧ TextsOff wx kv K gh wb.heap.size ∧ Below wb.heap.size wb wx)
  case first =>
   have HS : RowKit.Hid (∀ w', Below wb.heap.size wb w' → (w'.cell? ⟨gm, 2, none⟩ = some (.map (some bz)) ∧ w'.cell? ⟨gm, 3, none⟩ = some (.map (some bk)) ∧ Below wb.heap.size wb w')) := Lib.hid (fun w' hb => ⟨cell_later hb (HMI.out.bx.cell 2 rfl), cell_later hb (HMI.out.bx.cell 3 rfl), hb⟩)
   refine wp_region_keep (fun w' => w'.cell? ⟨gm, 2, none⟩ = some (.map (some bz)) ∧ w'.cell? ⟨gm, 3, none⟩ = some (.map (some bk)) ∧ Below wb.heap.size wb w') [12] (by kernel_rfl) ?_
   have hB0 : Below (wb).heap.size (wb) (wb).drew := Below.drew (Below.refl _ _)
   obtain ⟨wd, hwd⟩ : ∃ q, (wb).drew = q := ⟨_, rfl⟩
   rw [hwd] at hB0 ⊢
   have HZ0 : RowKit.Hid (wd.heap.size = (wb).heap.size) := Lib.hid (by rw [← hwd]; rfl)
   clear hwd
   refine wfr 0 (v := ?_) rfl ?_ ?_
   rotate_left
   ·intro w' hw';go_simp;try with_reducible rfl
   try simp only [Act.put, sq]
   refine wfr 1 (v := ?_) rfl ?_ ?_
   rotate_left
   ·intro w' hw';go_simp;try with_reducible rfl
   try simp only [Act.put, sq]
   refine wfr 2 (v := ?_) rfl ?_ ?_
   rotate_left
   ·intro w' hw';go_simp;try with_reducible rfl
   try simp only [Act.put, sq]
   refine wtk 3 13 (v := ?_) rfl ?_ (HS.out _ hB0) ?_
   rotate_left
   ·intro w' hw';(try dsimp only at hw');go_simp;try with_reducible rfl
   try simp only [Act.put, sq]
   refine wfr 5 (v := ?_) rfl ?_ ?_
   rotate_left
   ·intro w' hw';go_simp;try with_reducible rfl
   try simp only [Act.put, sq]
   refine wfr 6 (v := ?_) rfl ?_ ?_
   rotate_left
   ·intro w' hw';go_simp;try with_reducible rfl
   try simp only [Act.put, sq]
   refine wfr 7 (v := ?_) rfl ?_ ?_
   rotate_left
   ·intro w' hw';go_simp;try with_reducible rfl
   try simp only [Act.put, sq]
   refine wtk 8 13 (v := ?_) rfl ?_ (HS.out _ hB0) ?_
   rotate_left
   ·intro w' hw';(try dsimp only at hw');go_simp;try with_reducible rfl
   try simp only [Act.put, sq]
   refine wpAnyM_two 4 11 rfl rfl (by kernel_rfl) (fun K hK => ?_) (fun K hK => ?_)
   ·go_simp
    refine (HN1.out _ hB0).mono ?_
    rintro e w4 ⟨sv, rfl, htS, hnS, hb4⟩
    obtain ⟨pS, cS, rfl⟩ := texts_form htS
    have hB4 := below_next hB0 hb4
    refine hK.out _ _ (fun _ _ => HS.out _ hB4) ?_
    clear hK K
    try simp only [Act.put, sq]
    refine wpAnyM_two 9 11 rfl rfl (by kernel_rfl) (fun K hK => ?_) (fun K hK => ?_)
    ·go_simp
     refine (HN2.out _ hB4).mono ?_
     rintro e w9 ⟨kv, rfl, htK, hnK, hb9⟩
     obtain ⟨pK, cK, rfl⟩ := texts_form htK
     have hB9 := below_next hB4 hb9
     refine hK.out _ _ (fun _ _ => HS.out _ hB9) ?_
     clear hK K
     try simp only [Act.put, sq]
     refine wfr 10 (v := ?_) rfl ?_ ?_
     rotate_left
     ·intro w' hw';go_simp;try with_reducible rfl
     try simp only [Act.put, sq]
     refine won 11 rfl fun K hK => ?_
     go_simp
     have hB11 := hB9.alloc hB9.size (.cells #[.slice none 0 0, .slice none 0 0, .slice none 0 0] 25)
     have hBl := Blk.new (w9) 25 [.slice none 0 0, .slice none 0 0, .slice none 0 0]
     have hb11 := (Below.refl (w9).heap.size (w9)).alloc (Nat.le_refl _) (.cells #[.slice none 0 0, .slice none 0 0, .slice none 0 0] 25)
     have hgB : (w9).heap.size < ((w9).alloc (.cells #[.slice none 0 0, .slice none 0 0, .slice none 0 0] 25)).heap.size := by simp
     have hgo : ∀ k, k < (w9).heap.size → ((w9).alloc (.cells #[.slice none 0 0, .slice none 0 0, .slice none 0 0] 25)).heap[k]? = (w9).heap[k]? := fun k hk => heap_kept _ _ hk
     refine hK.out _ _ (fun _ _ => HS.out _ hB11) ?_
     clear hK K
     try simp only [Act.put, sq]
     obtain ⟨w11, hw11⟩ : ∃ q, (w9).alloc (.cells #[.slice none 0 0, .slice none 0 0, .slice none 0 0] 25) = q := ⟨_, rfl⟩
     rw [hw11] at hB11 hb11 hBl hgB hgo
     try simp only [hw11]
     obtain ⟨gh, hgh⟩ : ∃ q, (w9).heap.size = q := ⟨_, rfl⟩
     rw [hgh] at hBl hgB hgo
     try simp only [hgh]
     have HBl := Lib.hid hBl
     clear hBl hw11
     refine won 12 rfl fun K hK => ?_
     have r0 := HBl.out.cell 0 rfl
     have r1 := HBl.out.cell 1 rfl
     have r2 := HBl.out.cell 2 rfl
     have f0 := HBl.out.frozen 0
     have f1 := HBl.out.frozen 1
     have f2 := HBl.out.frozen 2
     go_simp
     refine hK.out _ _ (fun h => absurd h (by decide)) ?_
     clear hK K
     try simp only [Act.put, sq]
     refine wpAnyM_done (by kernel_rfl) ?_ _
     try simp only [Act.put, sq]
     have hbl := HBl.out
     have HF := store3 hbl (.slice pS S.length cS) (.slice pK K.length cK) (.slice none 0 0)
     go_wp2_with fail
     go_meet
     have hz0 := HZ0.out
     have z4 := hb4.size
     have z9 := hb9.size
     have z11 := hb11.size
     have hn0 : wb.heap.size ≤ gh := by omega
     have ch4 := below_next (below_next (Below.refl w4.heap.size w4) hb9) hb11
     have ch9 := below_next (Below.refl w9.heap.size w9) hb11
     exact ⟨gh, _, _, rfl, HF.1, hn0, textsOff htS hnS (by omega) (by omega) (fun k hk hne => (HF.2.1 k hne).trans (ch4.block k hk)) (by rw [HF.2.2]; exact ch4.size), textsOff htK hnK (by omega) (by omega) (fun k hk hne => (HF.2.1 k hne).trans (ch9.block k hk)) (by rw [HF.2.2]; exact ch9.size), ((hB11.setCell hn0 _).setCell hn0 _).setCell hn0 _⟩
    ·go_simp
     have hB11 := hB4.alloc hB4.size (.cells #[.slice none 0 0, .slice none 0 0, .slice none 0 0] 25)
     have hBl := Blk.new (w4) 25 [.slice none 0 0, .slice none 0 0, .slice none 0 0]
     have hb11 := (Below.refl (w4).heap.size (w4)).alloc (Nat.le_refl _) (.cells #[.slice none 0 0, .slice none 0 0, .slice none 0 0] 25)
     have hgB : (w4).heap.size < ((w4).alloc (.cells #[.slice none 0 0, .slice none 0 0, .slice none 0 0] 25)).heap.size := by simp
     have hgo : ∀ k, k < (w4).heap.size → ((w4).alloc (.cells #[.slice none 0 0, .slice none 0 0, .slice none 0 0] 25)).heap[k]? = (w4).heap[k]? := fun k hk => heap_kept _ _ hk
     refine hK.out _ _ (fun _ _ => HS.out _ hB11) ?_
     clear hK K
     try simp only [Act.put, sq]
     obtain ⟨w11, hw11⟩ : ∃ q, (w4).alloc (.cells #[.slice none 0 0, .slice none 0 0, .slice none 0 0] 25) = q := ⟨_, rfl⟩
     rw [hw11] at hB11 hb11 hBl hgB hgo
     try simp only [hw11]
     obtain ⟨gh, hgh⟩ : ∃ q, (w4).heap.size = q := ⟨_, rfl⟩
     rw [hgh] at hBl hgB hgo
     try simp only [hgh]
     have HBl := Lib.hid hBl
     clear hBl hw11
     refine won 9 rfl fun K hK => ?_
     go_simp
     refine (HN2.out _ hB11).mono ?_
     rintro e w9 ⟨kv, rfl, htK, hnK, hb9⟩
     obtain ⟨pK, cK, rfl⟩ := texts_form htK
     have hB9 := below_next hB11 hb9
     replace HBl := Lib.hid (HBl.out.later hb9)
     refine hK.out _ _ (fun _ _ => HS.out _ hB9) ?_
     clear hK K
     try simp only [Act.put, sq]
     refine won 10 rfl fun K hK => ?_
     go_simp
     refine hK.out _ _ (fun _ h => h) ?_
     clear hK K
     try simp only [Act.put, sq]
     refine won 12 rfl fun K hK => ?_
     have r0 := HBl.out.cell 0 rfl
     have r1 := HBl.out.cell 1 rfl
     have r2 := HBl.out.cell 2 rfl
     have f0 := HBl.out.frozen 0
     have f1 := HBl.out.frozen 1
     have f2 := HBl.out.frozen 2
     go_simp
     refine hK.out _ _ (fun h => absurd h (by decide)) ?_
     clear hK K
     try simp only [Act.put, sq]
     refine wpAnyM_done (by kernel_rfl) ?_ _
     try simp only [Act.put, sq]
     have hbl := HBl.out
     have HF := store3 hbl (.slice pS S.length cS) (.slice pK K.length cK) (.slice none 0 0)
     go_wp2_with fail
     go_meet
     have hz0 := HZ0.out
     have z4 := hb4.size
     have z11 := hb11.size
     have z9 := hb9.size
     have hn0 : wb.heap.size ≤ gh := by omega
     have ch4 := below_next (below_next (Below.refl w4.heap.size w4) hb11) hb9
     have ch9 := Below.refl w9.heap.size w9
     exact ⟨gh, _, _, rfl, HF.1, hn0, textsOff htS hnS (by omega) (by omega) (fun k hk hne => (HF.2.1 k hne).trans (ch4.block k hk)) (by rw [HF.2.2]; exact ch4.size), textsOff htK hnK (by omega) (by omega) (fun k hk hne => (HF.2.1 k hne).trans (ch9.block k hk)) (by rw [HF.2.2]; exact ch9.size), ((hB9.setCell hn0 _).setCell hn0 _).setCell hn0 _⟩
   ·go_simp
    have hB11 := hB0.alloc hB0.size (.cells #[.slice none 0 0, .slice none 0 0, .slice none 0 0] 25)
    have hBl := Blk.new (wd) 25 [.slice none 0 0, .slice none 0 0, .slice none 0 0]
    have hb11 := (Below.refl (wd).heap.size (wd)).alloc (Nat.le_refl _) (.cells #[.slice none 0 0, .slice none 0 0, .slice none 0 0] 25)
    have hgB : (wd).heap.size < ((wd).alloc (.cells #[.slice none 0 0, .slice none 0 0, .slice none 0 0] 25)).heap.size := by simp
    have hgo : ∀ k, k < (wd).heap.size → ((wd).alloc (.cells #[.slice none 0 0, .slice none 0 0, .slice none 0 0] 25)).heap[k]? = (wd).heap[k]? := fun k hk => heap_kept _ _ hk
    refine hK.out _ _ (fun _ _ => HS.out _ hB11) ?_
    clear hK K
    try simp only [Act.put, sq]
    obtain ⟨w11, hw11⟩ : ∃ q, (wd).alloc (.cells #[.slice none 0 0, .slice none 0 0, .slice none 0 0] 25) = q := ⟨_, rfl⟩
    rw [hw11] at hB11 hb11 hBl hgB hgo
    try simp only [hw11]
    obtain ⟨gh, hgh⟩ : ∃ q, (wd).heap.size = q := ⟨_, rfl⟩
    rw [hgh] at hBl hgB hgo
    try simp only [hgh]
    have HBl := Lib.hid hBl
    clear hBl hw11
    refine won 4 rfl fun K hK => ?_
    go_simp
    refine (HN1.out _ hB11).mono ?_
    rintro e w4 ⟨sv, rfl, htS, hnS, hb4⟩
    obtain ⟨pS, cS, rfl⟩ := texts_form htS
    have hB4 := below_next hB11 hb4
    replace HBl := Lib.hid (HBl.out.later hb4)
    refine hK.out _ _ (fun _ _ => HS.out _ hB4) ?_
    clear hK K
    try simp only [Act.put, sq]
    refine won 9 rfl fun K hK => ?_
    go_simp
    refine (HN2.out _ hB4).mono ?_
    rintro e w9 ⟨kv, rfl, htK, hnK, hb9⟩
    obtain ⟨pK, cK, rfl⟩ := texts_form htK
    have hB9 := below_next hB4 hb9
    replace HBl := Lib.hid (HBl.out.later hb9)
    refine hK.out _ _ (fun _ _ => HS.out _ hB9) ?_
    clear hK K
    try simp only [Act.put, sq]
    refine won 10 rfl fun K hK => ?_
    go_simp
    refine hK.out _ _ (fun _ h => h) ?_
    clear hK K
    try simp only [Act.put, sq]
    refine won 12 rfl fun K hK => ?_
    have r0 := HBl.out.cell 0 rfl
    have r1 := HBl.out.cell 1 rfl
    have r2 := HBl.out.cell 2 rfl
    have f0 := HBl.out.frozen 0
    have f1 := HBl.out.frozen 1
    have f2 := HBl.out.frozen 2
    go_simp
    refine hK.out _ _ (fun h => absurd h (by decide)) ?_
    clear hK K
    try simp only [Act.put, sq]
    refine wpAnyM_done (by kernel_rfl) ?_ _
    try simp only [Act.put, sq]
    have hbl := HBl.out
    have HF := store3 hbl (.slice pS S.length cS) (.slice pK K.length cK) (.slice none 0 0)
    go_wp2_with fail
    go_meet
    have hz0 := HZ0.out
    have z11 := hb11.size
    have z4 := hb4.size
    have z9 := hb9.size
    have hn0 : wb.heap.size ≤ gh := by omega
    have ch4 := below_next (Below.refl w4.heap.size w4) hb9
    have ch9 := Below.refl w9.heap.size w9
    exact ⟨gh, _, _, rfl, HF.1, hn0, textsOff htS hnS (by omega) (by omega) (fun k hk hne => (HF.2.1 k hne).trans (ch4.block k hk)) (by rw [HF.2.2]; exact ch4.size), textsOff htK hnK (by omega) (by omega) (fun k hk hne => (HF.2.1 k hne).trans (ch9.block k hk)) (by rw [HF.2.2]; exact ch9.size), ((hB9.setCell hn0 _).setCell hn0 _).setCell hn0 _⟩
  case rest =>
   obtain ⟨gh, sv, kv, rfl, hbh, hgh0, htS, htK, hbc⟩ := hcut
   have ha : Apart wc wa.heap.size gm gh L.length bo bz bk Lm lv E := ⟨HMI.out.below hbc, hbh.ty⟩
   have HA := Lib.hid ha
   have HLow := Lib.hid (low_of HMI.out)
   have HEl := Lib.hid hmi.len
   have HOf := Lib.hid htS
   have HOk := Lib.hid htK
   have hBa : wa.heap.size ≤ wa.heap.size := Nat.le_refl _
   obtain ⟨pS, cS, rfl⟩ := texts_form (htS wc (fun _ _ _ _ => rfl))
   obtain ⟨pK, cK, rfl⟩ := texts_form (htK wc (fun _ _ _ _ => rfl))
   have hbac : Below wa.heap.size wa wc := hb2.trans (hbc.mono hb2.size)
   have HL0 := Lib.hid (HLoop.start (L := Lm) (E := E) (S := S) (K := K) hbh hbac)
   have hEf : E.length ≤ 40 := by rw [HEl.out]; exact hG.few
   have hgho : wa.heap.size ≤ gh := Nat.le_trans hb2.size hgh0
   have HB0a : RowKit.Hid (Below w.heap.size w wa) := Lib.hid (by rw [hgr]; exact HAL.out)
   have hSl : S.length ≤ 20 := by rw [← HS'.out]; exact hG.names
   have hKl : K.length ≤ 40 := by rw [← HK'.out]; exact hG.keys
   have HSs : RowKit.Hid (∀ x ∈ S, x.length ≤ 1000000) := Lib.hid (fun x hx => name_len x (((sortedN_spec (namesD Lm)).2 x).1 (by rw [HS'.out]; exact hx)).2)
   have HKs : RowKit.Hid (∀ x ∈ K, x.length ≤ 1000000) := Lib.hid (fun x hx => name_len x (((sortedN_spec (keysD Lm)).2 x).1 (by rw [HK'.out]; exact hx)).2)
   obtain ⟨pl, cl, rfl⟩ := owns_form ha.mi.row
   have hm0 := ha.mi.bx.cell 0 rfl
   clear hbh htS htK hbc ha hmi HMI HN1 HN2 hbac
   go_wp2_with fail
   go_loopw [40] (fun i wr => ∃ (k : Nat) (vt : Value), k ≤ E.length ∧ i = .int .i64 k ∧ HLoop wa wc wr wa.heap.size gh k Lm E S K (.slice pS S.length cS) (.slice pK K.length cK) vt ∧ (∀ q, vt.ownBlock = some q → wc.heap.size ≤ q)) (fun i _ => E.length - (RowKit.intOf i).toNat)
   case atStart => exact ⟨0, _, Nat.zero_le _, rfl, HL0.out, fun q hq => (by cases hq)⟩
   case round =>
    obtain ⟨k, vt, hk, rfl, hl, hvt⟩ := hrel
    by_cases hk1 : k < E.length
    ·have hkL : k < Lm.length := by rw [← HEl.out]; exact hk1
     obtain ⟨pq, cq, hpq, hpc⟩ := hl.ptrs HA.out (Nat.le_of_lt hkL)
     obtain ⟨pg, hpg, hptr⟩ := hpc k hk1
     injection hpq with e1 _ e3
     subst e1
     subst e3
     subst hpg
     have a0 := hptr 0 _ rfl
     simp only [Nat.mul_one, Nat.add_zero] at a0
     obtain ⟨⟨g, ek, eo⟩, hEk⟩ : ∃ e0, E.getD k noEn = e0 := ⟨_, rfl⟩
     obtain ⟨d, hLk⟩ : ∃ d0, Lm.getD k noD = d0 := ⟨_, rfl⟩
     rw [hEk] at a0
     dsimp only at a0
     have HMr := Lib.hid (hl.mid HA.out hkL)
     have hgd := hG.all _ (getD_memD Lm k hkL)
     rw [hLk] at hgd
     have HGd := Lib.hid hgd
     have hnl := name_len d.nm hgd.nm
     have hof := hgd.few
     have hkf : d.ks.length ≤ 20 := by rw [hgd.len]; exact hgd.few
     have hop := open_iff hG HEl.out (fun i j h1 h2 => HA.out.mi.ne i j h1 h2) k hkL
     rw [hLk, hEk] at hop
     dsimp only at hop
     have HOp := Lib.hid hop
     have HOn := Lib.hid (hl.opn HA.out (Nat.le_of_lt hkL))
     have hbx := hl.bx HA.out (Nat.le_of_lt hkL)
     have hdr := HMr.out.dr
     have hoi := HMr.out.opi
     rw [hEk, hLk] at hdr hoi
     dsimp only at hdr hoi
     obtain ⟨pe, ce, rfl⟩ := owns_form hoi
     have HKf : RowKit.Hid (∀ x ∈ d.ks, numT K x = ((findT K x).1 : Int)) := Lib.hid (fun x hx => by
      have := key_found hG k hkL x (by rw [hLk]; exact hx)
      rw [HK'.out] at this
      exact this)
     clear hop hgd hoi hptr hpc
     cases ho : d.op with
     | true =>
      have hF := HOp.out.1 ho
      have HE := Lib.hid (hist_end L HMP.out k hkL (by rw [hLk]; exact ho) hl.shut)
      rw [hLk] at HE
      have HS : RowKit.Hid (∀ w', Below wr.heap.size wr w' → (w'.cell? ⟨gm, 1, none⟩ = some (.map (some bo)) ∧ w'.cell? ⟨g, 0, none⟩ = some (.string (bs d.nm)) ∧ (Instr.lookup 131 (.map (some bo)) (.string (bs d.nm)) false).run Tryz.prog w' = .ok (.pointer (some ⟨g, 0, none⟩)) w' ∧ (binOp .eql 135 (.pointer (some ⟨g, 0, none⟩)) (.pointer (some ⟨g, 0, none⟩))).run Tryz.prog w' = .ok (.bool true) w' ∧ Below wr.heap.size wr w')) := Lib.hid (fun w' hb => ⟨cell_later hb (hbx.cell 1 rfl), cell_later hb (hdr.cell 0 rfl), by have := opn_look (HOn.out.at (hb.block _ HOn.out.lt)) d.nm (by omega); rw [hF] at this; exact this, ptr_same w' g, hb⟩)
      go_wp2_with fail
      refine wp_region_keep (fun w' => w'.cell? ⟨gm, 1, none⟩ = some (.map (some bo)) ∧ w'.cell? ⟨g, 0, none⟩ = some (.string (bs d.nm)) ∧ (Instr.lookup 131 (.map (some bo)) (.string (bs d.nm)) false).run Tryz.prog w' = .ok (.pointer (some ⟨g, 0, none⟩)) w' ∧ (binOp .eql 135 (.pointer (some ⟨g, 0, none⟩)) (.pointer (some ⟨g, 0, none⟩))).run Tryz.prog w' = .ok (.bool true) w' ∧ Below wr.heap.size wr w') [] (by kernel_rfl) ?_
      have hB0 : Below (wr).heap.size (wr) (wr).drew := Below.drew (Below.refl _ _)
      have hS0 := HS.out _ hB0
      refine wfr 0 (v := ?_) rfl ?_ ?_
      rotate_left
      ·intro w' hw';go_simp;try with_reducible rfl
      try simp only [Act.put, sq]
      refine wfr 1 (v := ?_) rfl ?_ ?_
      rotate_left
      ·intro w' hw';go_simp;try with_reducible rfl
      try simp only [Act.put, sq]
      refine wfr 2 (v := ?_) rfl ?_ ?_
      rotate_left
      ·intro w' hw';go_simp;try with_reducible rfl
      try simp only [Act.put, sq]
      refine wtk 3 11 (v := ?_) rfl ?_ hS0 ?_
      rotate_left
      ·intro w' hw';(try dsimp only at hw');go_simp;try with_reducible rfl
      try simp only [Act.put, sq]
      refine wfr 4 (v := ?_) rfl ?_ ?_
      rotate_left
      ·intro w' hw';go_simp;try with_reducible rfl
      try simp only [Act.put, sq]
      refine wfr 5 (v := ?_) rfl ?_ ?_
      rotate_left
      ·intro w' hw';go_simp;try with_reducible rfl
      try simp only [Act.put, sq]
      refine wfr 6 (v := ?_) rfl ?_ ?_
      rotate_left
      ·intro w' hw';go_simp;try with_reducible rfl
      try simp only [Act.put, sq]
      refine wtk 7 11 (v := ?_) rfl ?_ hS0 ?_
      rotate_left
      ·intro w' hw';(try dsimp only at hw');go_simp;try with_reducible rfl
      try simp only [Act.put, sq]
      refine wtk 8 11 (v := ?_) rfl ?_ hS0 ?_
      rotate_left
      ·intro w' hw';(try dsimp only at hw');go_simp;try with_reducible rfl
      try simp only [Act.put, sq]
      refine won 9 rfl fun K hK => ?_
      go_simp
      refine hK.out _ _ (fun _ h => h) ?_
      clear hK K
      try simp only [Act.put, sq]
      refine won 10 rfl fun K hK => ?_
      go_simp
      refine hK.out _ _ (fun _ h => h) ?_
      clear hK K
      try simp only [Act.put, sq]
      refine wpAnyM_done (by kernel_rfl) ?_ _
      try simp only [Act.put, sq]
      have hgg : g ≠ gr := by have := (HA.out.mi.dr k hkL).base; rw [hEk] at this; dsimp only at this; omega
      have HL8 := Lib.hid (hl.below hB0 hBa)
      have HD8 := Lib.hid (hdr.later hB0)
      clear HS hS0 hB0 hdr hbx hl a0 hF hm0
      generalize wr.drew = w8 at *
      go_wp2_with fail
      have HS : RowKit.Hid (∀ w', Below w8.heap.size w8 w' → (w'.cell? ⟨g, 2, none⟩ = some (.int .i64 d.ln))) := Lib.hid (fun w' hb => cell_later hb (HD8.out.cell 2 rfl))
      refine wp_region_keep (fun w' => w'.cell? ⟨g, 2, none⟩ = some (.int .i64 d.ln)) [] (by kernel_rfl) ?_
      have hB0 : Below (w8).heap.size (w8) (w8).drew := Below.drew (Below.refl _ _)
      have hS0 := HS.out _ hB0
      refine wfr 0 (v := ?_) rfl ?_ ?_
      rotate_left
      ·intro w' hw';go_simp;try with_reducible rfl
      try simp only [Act.put, sq]
      refine wfr 1 (v := ?_) rfl ?_ ?_
      rotate_left
      ·intro w' hw';go_simp;try with_reducible rfl
      try simp only [Act.put, sq]
      refine wfr 2 (v := ?_) rfl ?_ ?_
      rotate_left
      ·intro w' hw';go_simp;try with_reducible rfl
      try simp only [Act.put, sq]
      refine wfr 3 (v := ?_) rfl ?_ ?_
      rotate_left
      ·intro w' hw';go_simp;try with_reducible rfl
      try simp only [Act.put, sq]
      refine wtk 4 8 (v := ?_) rfl ?_ hS0 ?_
      rotate_left
      ·intro w' hw';(try dsimp only at hw');go_simp;try with_reducible rfl
      try simp only [Act.put, sq]
      have HRg := Lib.hid (HRA.out.below HL8.out.bel (by omega))
      have hkS := (((HD8.out.far hgg (a := ⟨gr, 0, none⟩) (.slice none 0 0)).far hgg (a := ⟨gr, 1, none⟩) (.slice none 0 0)).far hgg (a := ⟨gr, 2, none⟩) (.slice none 0 0)).drew.cell 2 rfl
      have r0 := HRg.out.cell 0 rfl
      have r1 := HRg.out.cell 1 rfl
      have r2 := HRg.out.cell 2 rfl
      have f0 := HRg.out.frozen 0
      have f1 := HRg.out.frozen 1
      have f2 := HRg.out.frozen 2
      refine won 5 rfl fun K hK => ?_
      go_simp
      refine hK.out _ _ (fun _ _ => hkS) ?_
      clear hK K
      try simp only [Act.put, sq]
      refine won 6 rfl fun K hK => ?_
      go_simp
      refine hK.out _ _ (fun _ h => h) ?_
      clear hK K
      try simp only [Act.put, sq]
      refine won 7 rfl fun K hK => ?_
      go_simp
      refine hK.out _ _ (fun _ h => h) ?_
      clear hK K
      try simp only [Act.put, sq]
      refine wpAnyM_done (by kernel_rfl) ?_ _
      try simp only [Act.put, sq]
      have HRS := Lib.hid (((HRg.out.set 0 (.slice none 0 0)).set 1 (.slice none 0 0)).set 2 (.slice none 0 0))
      have hb9 : Below gr w w8 := HAL.out.trans (HL8.out.bel.mono (by omega))
      go_wp21
      rw [HE.out]
      refine bodyPost_ret (ret_h (w := _) _ _ _ HRS.out rfl rfl rfl) rfl ⟨_, rfl, histV_no _, ?_⟩
      rw [hgr]
      have hb99 := ((hb9.setCell (p := ⟨gr, 0, none⟩) (Nat.le_refl _) (.slice none 0 0)).setCell (p := ⟨gr, 1, none⟩) (Nat.le_refl _) (.slice none 0 0)).setCell (p := ⟨gr, 2, none⟩) (Nat.le_refl _) (.slice none 0 0)
      first | exact hb99 | exact hb99.drew
     | false =>
      have hFn := HOp.out.2 ho
      cases hF : openF Lm E d.nm with
      | none =>
       have HS : RowKit.Hid (∀ w', Below wr.heap.size wr w' → (w'.cell? ⟨gm, 1, none⟩ = some (.map (some bo)) ∧ w'.cell? ⟨g, 0, none⟩ = some (.string (bs d.nm)) ∧ (Instr.lookup 131 (.map (some bo)) (.string (bs d.nm)) false).run Tryz.prog w' = .ok (.pointer none) w' ∧ Below wr.heap.size wr w')) := Lib.hid (fun w' hb => ⟨cell_later hb (hbx.cell 1 rfl), cell_later hb (hdr.cell 0 rfl), by have := opn_look (HOn.out.at (hb.block _ HOn.out.lt)) d.nm (by omega); rw [hF] at this; exact this, hb⟩)
       go_wp2_with fail
       refine wp_region_keep (fun w' => w'.cell? ⟨gm, 1, none⟩ = some (.map (some bo)) ∧ w'.cell? ⟨g, 0, none⟩ = some (.string (bs d.nm)) ∧ (Instr.lookup 131 (.map (some bo)) (.string (bs d.nm)) false).run Tryz.prog w' = .ok (.pointer none) w' ∧ Below wr.heap.size wr w') [] (by kernel_rfl) ?_
       have hB0 : Below (wr).heap.size (wr) (wr).drew := Below.drew (Below.refl _ _)
       have hS0 := HS.out _ hB0
       refine wfr 0 (v := ?_) rfl ?_ ?_
       rotate_left
       ·intro w' hw';go_simp;try with_reducible rfl
       try simp only [Act.put, sq]
       refine wfr 1 (v := ?_) rfl ?_ ?_
       rotate_left
       ·intro w' hw';go_simp;try with_reducible rfl
       try simp only [Act.put, sq]
       refine wfr 2 (v := ?_) rfl ?_ ?_
       rotate_left
       ·intro w' hw';go_simp;try with_reducible rfl
       try simp only [Act.put, sq]
       refine wtk 3 11 (v := ?_) rfl ?_ hS0 ?_
       rotate_left
       ·intro w' hw';(try dsimp only at hw');go_simp;try with_reducible rfl
       try simp only [Act.put, sq]
       refine wfr 4 (v := ?_) rfl ?_ ?_
       rotate_left
       ·intro w' hw';go_simp;try with_reducible rfl
       try simp only [Act.put, sq]
       refine wfr 5 (v := ?_) rfl ?_ ?_
       rotate_left
       ·intro w' hw';go_simp;try with_reducible rfl
       try simp only [Act.put, sq]
       refine wfr 6 (v := ?_) rfl ?_ ?_
       rotate_left
       ·intro w' hw';go_simp;try with_reducible rfl
       try simp only [Act.put, sq]
       refine wtk 7 11 (v := ?_) rfl ?_ hS0 ?_
       rotate_left
       ·intro w' hw';(try dsimp only at hw');go_simp;try with_reducible rfl
       try simp only [Act.put, sq]
       refine wtk 8 11 (v := ?_) rfl ?_ hS0 ?_
       rotate_left
       ·intro w' hw';(try dsimp only at hw');go_simp;try with_reducible rfl
       try simp only [Act.put, sq]
       refine won 9 rfl fun K hK => ?_
       go_simp
       refine hK.out _ _ (fun _ h => h) ?_
       clear hK K
       try simp only [Act.put, sq]
       refine won 10 rfl fun K hK => ?_
       go_simp
       refine hK.out _ _ (fun _ h => h) ?_
       clear hK K
       try simp only [Act.put, sq]
       refine wpAnyM_done (by kernel_rfl) ?_ _
       try simp only [Act.put, sq]
       have HM8 := Lib.hid (HMr.out.below hB0 hBa)
       clear HS hS0 hB0 hdr hbx hl a0 hF hm0 HMr HOn HOp
       generalize wr.drew = w8 at *
       have hb08 : Below w.heap.size w w8 := HB0a.out.trans (HM8.out.bel.mono HB0a.out.size)
       have htS8 := texts_at HOf.out HLow.out (show k + 1 ≤ Lm.length from hkL) HM8.out.far
       have HFd := Lib.hid (fun w' (hb : Below w8.heap.size w8 w') => find_any w' (.slice pS S.length cS) S d.nm (htS8.below hb) (by omega) HSs.out (Utf8Tabs_below HT.out (hb08.trans (hb.mono hb08.size))))
       have hd8 := HM8.out.dr
       rw [hEk, hLk] at hd8
       have HS : RowKit.Hid (∀ w', Below w8.heap.size w8 w' → (w'.cell? ⟨gh, 0, none⟩ = some (.slice pS S.length cS) ∧ w'.cell? ⟨g, 0, none⟩ = some (.string (bs d.nm)) ∧ Below w8.heap.size w8 w')) := Lib.hid (fun w' hb => ⟨cell_later hb (HM8.out.hb.cell 0 rfl), cell_later hb (hd8.cell 0 rfl), hb⟩)
       clear htS8 hb08
       go_wp2_with fail
       refine wp_region_keep (fun w' => w'.cell? ⟨gh, 0, none⟩ = some (.slice pS S.length cS) ∧ w'.cell? ⟨g, 0, none⟩ = some (.string (bs d.nm)) ∧ Below w8.heap.size w8 w') [14] (by kernel_rfl) ?_
       have hB0 : Below (w8).heap.size (w8) (w8).drew := Below.drew (Below.refl _ _)
       have hS0 := HS.out _ hB0
       refine wfr 0 (v := ?_) rfl ?_ ?_
       rotate_left
       ·intro w' hw';go_simp;try with_reducible rfl
       try simp only [Act.put, sq]
       refine wfr 1 (v := ?_) rfl ?_ ?_
       rotate_left
       ·intro w' hw';go_simp;try with_reducible rfl
       try simp only [Act.put, sq]
       refine wtk 2 15 (v := ?_) rfl ?_ hS0 ?_
       rotate_left
       ·intro w' hw';(try dsimp only at hw');go_simp;try with_reducible rfl
       try simp only [Act.put, sq]
       refine won 3 rfl fun K hK => ?_
       go_simp
       refine hK.out _ _ (fun _ h => h) ?_
       clear hK K
       try simp only [Act.put, sq]
       refine won 4 rfl fun K hK => ?_
       go_simp
       refine hK.out _ _ (fun _ h => h) ?_
       clear hK K
       try simp only [Act.put, sq]
       refine won 5 rfl fun K hK => ?_
       go_simp
       refine hK.out _ _ (fun _ h => h) ?_
       clear hK K
       try simp only [Act.put, sq]
       refine won 6 rfl fun K hK => ?_
       go_simp
       refine hK.out _ _ (fun _ h => h) ?_
       clear hK K
       try simp only [Act.put, sq]
       refine won 7 rfl fun K hK => ?_
       go_simp
       refine (HFd.out _ hB0).mono ?_
       rintro e w1 ⟨rfl, hb1⟩
       have hB1 := below_next hB0 hb1
       have hS1 := HS.out _ hB1
       refine hK.out _ _ (fun _ _ => hS1) ?_
       clear hK K hS0
       try simp only [Act.put, sq]
       refine won 8 rfl fun K hK => ?_
       go_simp
       refine hK.out _ _ (fun _ h => h) ?_
       clear hK K
       try simp only [Act.put, sq]
       refine wfr 9 (v := ?_) rfl ?_ ?_
       rotate_left
       ·intro w' hw';go_simp;try with_reducible rfl
       try simp only [Act.put, sq]
       refine wfr 10 (v := ?_) rfl ?_ ?_
       rotate_left
       ·intro w' hw';go_simp;try with_reducible rfl
       try simp only [Act.put, sq]
       refine won 11 rfl fun K hK => ?_
       go_simp
       refine hK.out _ _ (fun _ h => h) ?_
       clear hK K
       try simp only [Act.put, sq]
       refine won 12 rfl fun K hK => ?_
       go_simp
       refine hK.out _ _ (fun _ h => h) ?_
       clear hK K
       try simp only [Act.put, sq]
       refine won 13 rfl fun K hK => ?_
       go_simp
       refine hK.out _ _ (fun _ h => h) ?_
       clear hK K
       try simp only [Act.put, sq]
       have HM9 := Lib.hid (HM8.out.below hB1 hBa)
       have hd9 := HM9.out.dr
       rw [hEk, hLk] at hd9
       have d3 := hd9.cell 3 rfl
       have d3f := hd9.frozen 3
       refine won 14 rfl fun K hK => ?_
       go_simp
       refine hK.out _ _ (fun h => absurd h (by decide)) ?_
       clear hK K
       try simp only [Act.put, sq]
       refine wpAnyM_done (by kernel_rfl) ?_ _
       try simp only [Act.put, sq]
       have hM10 := HM9.out.sess HA.out hkL ((findT S d.nm).1 : Int)
       rw [hEk] at hM10
       have HM10 := Lib.hid hM10
       clear HS hB0 hB1 hb1 HFd hd8 d3 d3f hd9 HM9 HM8 hM10
       obtain ⟨sx, hsx⟩ : ∃ q, ((findT S d.nm).1 : Int) = q := ⟨_, rfl⟩
       rw [hsx] at HM10
       try simp only [hsx]
       generalize w1.setCell ⟨g, 3, none⟩ (.int .i64 sx) = w10 at *
       have hkt := HM10.out.keys HA.out hkL
       rw [hEk, hLk] at hkt
       obtain ⟨pk, ck, hek⟩ := texts_form hkt
       dsimp only at hek hkt
       subst hek
       have htK8 := texts_at HOk.out HLow.out (show k + 1 ≤ Lm.length from hkL) HM10.out.far
       have hb010 : Below w.heap.size w w10 := HB0a.out.trans (HM10.out.bel.mono HB0a.out.size)
       have HMap := Lib.hid (fun w' (hb : Below w10.heap.size w10 w') => map_new w' (.slice pk d.ks.length ck) (.slice pK K.length cK) d.ks K (hkt.below hb) (htK8.below hb) (by omega) (by omega) HKs.out (Utf8Tabs_below HT.out (hb010.trans (hb.mono hb010.size))))
       obtain ⟨M, hM⟩ : ∃ M, mapT d.ks K = M := ⟨_, rfl⟩
       have HMl : RowKit.Hid (M.length = d.ops.length) := Lib.hid (by rw [← hM, mapT, List.length_map, HGd.out.len])
       have HMv : RowKit.Hid (∀ j, j < d.ops.length → M.getD j 0 = ((findT K (d.ks.getD j [])).1 : Int)) := Lib.hid (fun j hj => by
        have hj2 : j < d.ks.length := by rw [HGd.out.len]; exact hj
        have e := HKf.out (d.ks.getD j []) (by rw [show d.ks.getD j [] = d.ks[j] by simp [hj2]]; exact List.getElem_mem hj2)
        rw [← hM, ← e]
        simp [mapT, hj2])
       rw [hM] at HMap
       have hd10 := HM10.out.dr
       rw [hEk, hLk] at hd10
       have HS : RowKit.Hid (∀ w', Below w10.heap.size w10 w' → (w'.cell? ⟨g, 1, none⟩ = some (.slice pk d.ks.length ck) ∧ w'.cell? ⟨gh, 1, none⟩ = some (.slice pK K.length cK) ∧ Below w10.heap.size w10 w')) := Lib.hid (fun w' hb => ⟨cell_later hb (hd10.cell 1 rfl), cell_later hb (HM10.out.hb.cell 1 rfl), hb⟩)
       have ho10 := HM10.out.opi
       rw [hEk, hLk] at ho10
       have HOlt : RowKit.Hid (∀ q, Value.ownBlock (.slice pe d.ops.length ce) = some q → q < w10.drew.heap.size) := Lib.hid (fun q hq => own_lt ho10 hq)
       clear htK8 hb010 hkt hM ho10
       go_wp2_with fail
       refine wp_region_keep (fun w' => w'.cell? ⟨g, 1, none⟩ = some (.slice pk d.ks.length ck) ∧ w'.cell? ⟨gh, 1, none⟩ = some (.slice pK K.length cK) ∧ Below w10.heap.size w10 w') [] (by kernel_rfl) ?_
       have hB0 : Below (w10).heap.size (w10) (w10).drew := Below.drew (Below.refl _ _)
       have hS0 := HS.out _ hB0
       refine wfr 0 (v := ?_) rfl ?_ ?_
       rotate_left
       ·intro w' hw';go_simp;try with_reducible rfl
       try simp only [Act.put, sq]
       refine wfr 1 (v := ?_) rfl ?_ ?_
       rotate_left
       ·intro w' hw';go_simp;try with_reducible rfl
       try simp only [Act.put, sq]
       refine wfr 2 (v := ?_) rfl ?_ ?_
       rotate_left
       ·intro w' hw';go_simp;try with_reducible rfl
       try simp only [Act.put, sq]
       refine wtk 3 9 (v := ?_) rfl ?_ hS0 ?_
       rotate_left
       ·intro w' hw';(try dsimp only at hw');go_simp;try with_reducible rfl
       try simp only [Act.put, sq]
       refine wfr 4 (v := ?_) rfl ?_ ?_
       rotate_left
       ·intro w' hw';go_simp;try with_reducible rfl
       try simp only [Act.put, sq]
       refine wtk 5 9 (v := ?_) rfl ?_ hS0 ?_
       rotate_left
       ·intro w' hw';(try dsimp only at hw');go_simp;try with_reducible rfl
       try simp only [Act.put, sq]
       refine wfr 8 (v := ?_) rfl ?_ ?_
       rotate_left
       ·intro w' hw';go_simp;try with_reducible rfl
       try simp only [Act.put, sq]
       refine won 6 rfl fun K hK => ?_
       go_simp
       refine (HMap.out _ hB0).mono ?_
       rintro e w1 ⟨v4, rfl, hin, hnw, hb1⟩
       have hB1 := below_next hB0 hb1
       have hS1 := HS.out _ hB1
       obtain ⟨pI, cI, rfl, hint⟩ := hin
       refine hK.out _ _ (fun _ _ => hS1) ?_
       clear hK K hS0
       try simp only [Act.put, sq]
       refine won 7 rfl fun K hK => ?_
       go_simp
       refine hK.out _ _ (fun _ h => h) ?_
       clear hK K
       try simp only [Act.put, sq]
       refine wpAnyM_done (by kernel_rfl) ?_ _
       try simp only [Act.put, sq]
       have HM11 := Lib.hid (HM10.out.below hB1 hBa)
       have HIn := Lib.hid hint
       have HNw := Lib.hid hnw
       clear HS hB0 hB1 hb1 hint hnw HM10 hd10 HMap
       go_wp2_with fail
       go_loopw [82] (fun i wq => ∃ j : Nat, j ≤ M.length ∧ i = .int .i64 j ∧ HMid wa wc wq wa.heap.size gh k Lm E S K (.slice pS S.length cS) (.slice pK K.length cK) vt sx j ∧ ∀ q, Value.ownBlock (.slice pe d.ops.length ce) ≠ some q → q < w1.heap.size → wq.heap[q]? = w1.heap[q]?) (fun i _ => M.length - (RowKit.intOf i).toNat)
       case atStart => exact ⟨0, Nat.zero_le _, rfl, HM11.out, fun _ _ _ => rfl⟩
       case round =>
        obtain ⟨j, hj, rfl, hmq, hkeep⟩ := hrel
        have hoq := hmq.opi
        rw [hEk, hLk] at hoq
        have hdq := hmq.dr
        rw [hEk, hLk] at hdq
        by_cases hj1 : j < M.length
        ·have hjo : j < d.ops.length := by rw [← HMl.out]; exact hj1
         obtain ⟨gi, rfl, hci⟩ := HIn.out j hj1
         have hgi := HNw.out gi rfl
         have hgl : gi < w1.heap.size := World.block_lt_of_cell? w1 _ hci
         have q1 : wr.cell? ⟨gi, j, none⟩ = some (.int .i64 (M.getD j 0)) := by
          rw [World.cell?_of_block (a := ⟨gi, j, none⟩) (hkeep gi (fun e => by have := HOlt.out gi e; omega) hgl)]
          exact hci
         rw [HMv.out j hjo] at q1
         obtain ⟨go, cp, hgo⟩ := owns_pos hoq (by omega)
         injection hgo with e1 _ e3
         subst e1
         subst e3
         have c5 := hdq.cell 5 rfl
         have hfl : ((midO K d j).flatMap opc).length = d.ops.length * 4 := hoq.1
         obtain ⟨u, hu⟩ : ∃ u, ((midO K d j).flatMap opc)[j * 4 + 1]? = some u := ⟨_, List.getElem?_eq_getElem (by omega)⟩
         have q2 : wr.cell? ⟨go, j * 4 + 1, none⟩ = some u := (hoq.cellAt (j * 4 + 1) (by omega)).trans hu
         have q3 := hoq.frozenAt (j * 4 + 1)
         have hnx := hmq.op HA.out hkL (by rw [hEk, hLk]) (by rw [hLk]; exact HGd.out.len) (by rw [hLk]; exact hjo)
         rw [hLk] at hnx
         have HNx := Lib.hid hnx
         have HKp := Lib.hid hkeep
         obtain ⟨u2, hu2⟩ : ∃ q, ((findT K (d.ks.getD j [])).1 : Int) = q := ⟨_, rfl⟩
         rw [hu2] at HNx q1
         clear hmq hkeep hoq hdq hu hfl hnx hu2 hci hgi
         go_wp2_with fail
         go_roundw
         case rel => exact ⟨j + 1, by omega, by go_num, HNx.out, fun q h1 h2 => by rw [Below.heap_setCell _ _ _ _ (fun e => h1 (by rw [e]; rfl))]; exact HKp.out q h1 h2⟩
         case measure => simp [RowKit.intOf]; omega
        ·have hje : j = M.length := by omega
         rw [HMl.out] at hje
         subst hje
         have HMq := Lib.hid (hmq.below (Below.drew (Below.refl wr.heap.size wr)) hBa)
         have hbq := hmq.hb
         have HTx : RowKit.Hid (∀ (ob : Obj) v6 w6, w6.ownsRow wa.heap.size 47 3 v6 (k + 1) (((Lm.zip E).take k).flatMap (txc S) ++ [.int .i64 sx, .int .i64 d.fate, .slice pe d.ops.length ce]) → (wr.drew.alloc ob).grownBy w6 vt.ownBlock → (v6.ownBlock = vt.ownBlock ∨ v6.ownBlock = some (wr.drew.alloc ob).heap.size) →
           Blk w6 gh 25 [.slice pS S.length cS, .slice pK K.length cK, vt] ∧ HLoop wa wc (w6.setCell ⟨gh, 2, none⟩ v6) wa.heap.size gh (k + 1) Lm E S K (.slice pS S.length cS) (.slice pK K.length cK) v6 ∧ ∀ q, v6.ownBlock = some q → wc.heap.size ≤ q) := Lib.hid (fun ob v6 w6 h1 h2 h3 => by
          have hq := HMq.out
          rw [← hsx, ← hLk] at hq
          refine HMid.done HA.out HEl.out hq hkL (by rw [hLk]; exact ho) hgho hBa hvt ?_ h2 h3
          rw [hLk, hEk]
          unfold txc
          dsimp only
          rw [hsx]
          exact h1)
         obtain ⟨i3, hi3, hy0, hy1, hy2⟩ := info_parts info_ptx
         have hBq := Nat.le_trans hmq.bel.size (Nat.le_refl wr.heap.size)
         have hwaq : wa.heap.size ≤ wr.heap.size := hmq.bel.size
         clear hmq hkeep hoq
         go_wp2_with fail
         have HS : RowKit.Hid (∀ w', Below wr.heap.size wr w' → (w'.cell? ⟨gh, 2, none⟩ = some (vt) ∧ w'.cell? ⟨g, 3, none⟩ = some (.int .i64 sx) ∧ w'.cell? ⟨g, 4, none⟩ = some (.int .i64 d.fate) ∧ w'.cell? ⟨g, 5, none⟩ = some (.slice pe d.ops.length ce) ∧ Below wr.heap.size wr w')) := Lib.hid (fun w' hb => ⟨cell_later hb (hbq.cell 2 rfl), cell_later hb (hdq.cell 3 rfl), cell_later hb (hdq.cell 4 rfl), cell_later hb (hdq.cell 5 rfl), hb⟩)
         clear hdq hbq
         refine wp_region_keep (fun w' => w'.cell? ⟨gh, 2, none⟩ = some (vt) ∧ w'.cell? ⟨g, 3, none⟩ = some (.int .i64 sx) ∧ w'.cell? ⟨g, 4, none⟩ = some (.int .i64 d.fate) ∧ w'.cell? ⟨g, 5, none⟩ = some (.slice pe d.ops.length ce) ∧ Below wr.heap.size wr w') [7, 9] (by kernel_rfl) ?_
         have hB0 : Below (wr).heap.size (wr) (wr).drew := Below.drew (Below.refl _ _)
         have hS0 := HS.out _ hB0
         refine wfr 0 (v := ?_) rfl ?_ ?_
         rotate_left
         ·intro w' hw';go_simp;try with_reducible rfl
         try simp only [Act.put, sq]
         refine wtk 1 10 (v := ?_) rfl ?_ hS0 ?_
         rotate_left
         ·intro w' hw';(try dsimp only at hw');go_simp;try with_reducible rfl
         try simp only [Act.put, sq]
         refine won 2 rfl fun K hK => ?_
         go_simp
         refine hK.out _ _ (fun _ h => h) ?_
         clear hK K
         try simp only [Act.put, sq]
         refine won 3 rfl fun K hK => ?_
         go_simp
         refine hK.out _ _ (fun _ h => h) ?_
         clear hK K
         try simp only [Act.put, sq]
         refine won 4 rfl fun K hK => ?_
         go_simp
         refine hK.out _ _ (fun _ h => h) ?_
         clear hK K
         try simp only [Act.put, sq]
         refine won 5 rfl fun K hK => ?_
         go_simp
         refine hK.out _ _ (fun _ h => h) ?_
         clear hK K
         try simp only [Act.put, sq]
         refine won 6 rfl fun K hK => ?_
         go_simp
         refine hK.out _ _ (fun _ _ => HS.out _ (hB0.alloc (Nat.le_refl _) _)) ?_
         clear hK K
         try simp only [Act.put, sq]
         refine won 7 rfl fun K hK => ?_
         refine step_append_own_at (by rfl) _ _ 23 (by rfl) wa.heap.size 47 i3 (.agg #[.int .i64 0, .int .i64 0, .slice none 0 0]) 3 40 Tryz.underlying23 hi3 hy0 hy1 hy2 rfl (by decide) vt k (((Lm.zip E).take k).flatMap (txc S)) (by rfl) (HMq.out.row.alloc _) ⟨wr.heap.size, 0, none⟩ 1 1 [.int .i64 sx, .int .i64 d.fate, .slice pe d.ops.length ce] (by rfl) rfl (news_lit _ _ _ _ rfl) (ones_txc _ _ _ _ _) (by unfold maxLen; omega) (by omega) (by simp; omega) (fun v6 w6 hown6 hgrow6 hat6 => ?_)
         refine hK.out _ _ (fun h => absurd h (by decide)) ?_
         clear hK K
         try simp only [Act.put, sq]
         refine won 8 rfl fun K hK => ?_
         go_simp
         refine hK.out _ _ (fun _ h => h) ?_
         clear hK K
         try simp only [Act.put, sq]
         obtain ⟨p6, c6, rfl⟩ := owns_form hown6
         have hD := HTx.out _ _ _ hown6 hgrow6 hat6
         have HD := Lib.hid hD
         have h60 := hD.1.cell 2 rfl
         have h6f := hD.1.frozen 2
         clear hD hown6 hgrow6 hat6
         refine won 9 rfl fun K hK => ?_
         go_simp
         refine hK.out _ _ (fun h => absurd h (by decide)) ?_
         clear hK K
         try simp only [Act.put, sq]
         refine wpAnyM_done (by kernel_rfl) ?_ _
         try simp only [Act.put, sq]
         clear HS hS0 hB0 h60 h6f
         go_wp2_with fail
         go_roundw
         case rel => exact ⟨k + 1, _, by omega, by go_num, HD.out.2.1, HD.out.2.2⟩
         case measure => simp [RowKit.intOf]; omega
      | some g' =>
       have hgg : g' ≠ g := fun e => hFn (by rw [hF, e])
       have hggb : (g' == g) = false := by simpa using hgg
       obtain ⟨cso, hoth⟩ := hl.other HA.out hkL (by rw [hLk]; exact ho) (by rw [hLk]; exact hF)
       clear hFn
       have HS : RowKit.Hid (∀ w', Below wr.heap.size wr w' → (w'.cell? ⟨gm, 1, none⟩ = some (.map (some bo)) ∧ w'.cell? ⟨g, 0, none⟩ = some (.string (bs d.nm)) ∧ (Instr.lookup 131 (.map (some bo)) (.string (bs d.nm)) false).run Tryz.prog w' = .ok (.pointer (some ⟨g', 0, none⟩)) w' ∧ (binOp .eql 135 (.pointer (some ⟨g', 0, none⟩)) (.pointer (some ⟨g, 0, none⟩))).run Tryz.prog w' = .ok (.bool false) w' ∧ Below wr.heap.size wr w')) := Lib.hid (fun w' hb => ⟨cell_later hb (hbx.cell 1 rfl), cell_later hb (hdr.cell 0 rfl), by have := opn_look (HOn.out.at (hb.block _ HOn.out.lt)) d.nm (by omega); rw [hF] at this; exact this, ptr_other hgg (hoth.at (hb.block _ hoth.lt)) (hdr.later hb), hb⟩)
       go_wp2_with fail
       refine wp_region_keep (fun w' => w'.cell? ⟨gm, 1, none⟩ = some (.map (some bo)) ∧ w'.cell? ⟨g, 0, none⟩ = some (.string (bs d.nm)) ∧ (Instr.lookup 131 (.map (some bo)) (.string (bs d.nm)) false).run Tryz.prog w' = .ok (.pointer (some ⟨g', 0, none⟩)) w' ∧ (binOp .eql 135 (.pointer (some ⟨g', 0, none⟩)) (.pointer (some ⟨g, 0, none⟩))).run Tryz.prog w' = .ok (.bool false) w' ∧ Below wr.heap.size wr w') [] (by kernel_rfl) ?_
       have hB0 : Below (wr).heap.size (wr) (wr).drew := Below.drew (Below.refl _ _)
       have hS0 := HS.out _ hB0
       refine wfr 0 (v := ?_) rfl ?_ ?_
       rotate_left
       ·intro w' hw';go_simp;try with_reducible rfl
       try simp only [Act.put, sq]
       refine wfr 1 (v := ?_) rfl ?_ ?_
       rotate_left
       ·intro w' hw';go_simp;try with_reducible rfl
       try simp only [Act.put, sq]
       refine wfr 2 (v := ?_) rfl ?_ ?_
       rotate_left
       ·intro w' hw';go_simp;try with_reducible rfl
       try simp only [Act.put, sq]
       refine wtk 3 11 (v := ?_) rfl ?_ hS0 ?_
       rotate_left
       ·intro w' hw';(try dsimp only at hw');go_simp;try with_reducible rfl
       try simp only [Act.put, sq]
       refine wfr 4 (v := ?_) rfl ?_ ?_
       rotate_left
       ·intro w' hw';go_simp;try with_reducible rfl
       try simp only [Act.put, sq]
       refine wfr 5 (v := ?_) rfl ?_ ?_
       rotate_left
       ·intro w' hw';go_simp;try with_reducible rfl
       try simp only [Act.put, sq]
       refine wfr 6 (v := ?_) rfl ?_ ?_
       rotate_left
       ·intro w' hw';go_simp;try with_reducible rfl
       try simp only [Act.put, sq]
       refine wtk 7 11 (v := ?_) rfl ?_ hS0 ?_
       rotate_left
       ·intro w' hw';(try dsimp only at hw');go_simp;try with_reducible rfl
       try simp only [Act.put, sq]
       refine wtk 8 11 (v := ?_) rfl ?_ hS0 ?_
       rotate_left
       ·intro w' hw';(try dsimp only at hw');go_simp;try with_reducible rfl
       try simp only [Act.put, sq]
       refine won 9 rfl fun K hK => ?_
       go_simp
       refine hK.out _ _ (fun _ h => h) ?_
       clear hK K
       try simp only [Act.put, sq]
       refine won 10 rfl fun K hK => ?_
       go_simp
       refine hK.out _ _ (fun _ h => h) ?_
       clear hK K
       try simp only [Act.put, sq]
       refine wpAnyM_done (by kernel_rfl) ?_ _
       try simp only [Act.put, sq]
       have HM8 := Lib.hid (HMr.out.below hB0 hBa)
       clear HS hS0 hB0 hdr hbx hl a0 hF hm0 HMr HOn HOp
       generalize wr.drew = w8 at *
       have hb08 : Below w.heap.size w w8 := HB0a.out.trans (HM8.out.bel.mono HB0a.out.size)
       have htS8 := texts_at HOf.out HLow.out (show k + 1 ≤ Lm.length from hkL) HM8.out.far
       have HFd := Lib.hid (fun w' (hb : Below w8.heap.size w8 w') => find_any w' (.slice pS S.length cS) S d.nm (htS8.below hb) (by omega) HSs.out (Utf8Tabs_below HT.out (hb08.trans (hb.mono hb08.size))))
       have hd8 := HM8.out.dr
       rw [hEk, hLk] at hd8
       have HS : RowKit.Hid (∀ w', Below w8.heap.size w8 w' → (w'.cell? ⟨gh, 0, none⟩ = some (.slice pS S.length cS) ∧ w'.cell? ⟨g, 0, none⟩ = some (.string (bs d.nm)) ∧ Below w8.heap.size w8 w')) := Lib.hid (fun w' hb => ⟨cell_later hb (HM8.out.hb.cell 0 rfl), cell_later hb (hd8.cell 0 rfl), hb⟩)
       clear htS8 hb08
       go_wp2_with fail
       refine wp_region_keep (fun w' => w'.cell? ⟨gh, 0, none⟩ = some (.slice pS S.length cS) ∧ w'.cell? ⟨g, 0, none⟩ = some (.string (bs d.nm)) ∧ Below w8.heap.size w8 w') [14] (by kernel_rfl) ?_
       have hB0 : Below (w8).heap.size (w8) (w8).drew := Below.drew (Below.refl _ _)
       have hS0 := HS.out _ hB0
       refine wfr 0 (v := ?_) rfl ?_ ?_
       rotate_left
       ·intro w' hw';go_simp;try with_reducible rfl
       try simp only [Act.put, sq]
       refine wfr 1 (v := ?_) rfl ?_ ?_
       rotate_left
       ·intro w' hw';go_simp;try with_reducible rfl
       try simp only [Act.put, sq]
       refine wtk 2 15 (v := ?_) rfl ?_ hS0 ?_
       rotate_left
       ·intro w' hw';(try dsimp only at hw');go_simp;try with_reducible rfl
       try simp only [Act.put, sq]
       refine won 3 rfl fun K hK => ?_
       go_simp
       refine hK.out _ _ (fun _ h => h) ?_
       clear hK K
       try simp only [Act.put, sq]
       refine won 4 rfl fun K hK => ?_
       go_simp
       refine hK.out _ _ (fun _ h => h) ?_
       clear hK K
       try simp only [Act.put, sq]
       refine won 5 rfl fun K hK => ?_
       go_simp
       refine hK.out _ _ (fun _ h => h) ?_
       clear hK K
       try simp only [Act.put, sq]
       refine won 6 rfl fun K hK => ?_
       go_simp
       refine hK.out _ _ (fun _ h => h) ?_
       clear hK K
       try simp only [Act.put, sq]
       refine won 7 rfl fun K hK => ?_
       go_simp
       refine (HFd.out _ hB0).mono ?_
       rintro e w1 ⟨rfl, hb1⟩
       have hB1 := below_next hB0 hb1
       have hS1 := HS.out _ hB1
       refine hK.out _ _ (fun _ _ => hS1) ?_
       clear hK K hS0
       try simp only [Act.put, sq]
       refine won 8 rfl fun K hK => ?_
       go_simp
       refine hK.out _ _ (fun _ h => h) ?_
       clear hK K
       try simp only [Act.put, sq]
       refine wfr 9 (v := ?_) rfl ?_ ?_
       rotate_left
       ·intro w' hw';go_simp;try with_reducible rfl
       try simp only [Act.put, sq]
       refine wfr 10 (v := ?_) rfl ?_ ?_
       rotate_left
       ·intro w' hw';go_simp;try with_reducible rfl
       try simp only [Act.put, sq]
       refine won 11 rfl fun K hK => ?_
       go_simp
       refine hK.out _ _ (fun _ h => h) ?_
       clear hK K
       try simp only [Act.put, sq]
       refine won 12 rfl fun K hK => ?_
       go_simp
       refine hK.out _ _ (fun _ h => h) ?_
       clear hK K
       try simp only [Act.put, sq]
       refine won 13 rfl fun K hK => ?_
       go_simp
       refine hK.out _ _ (fun _ h => h) ?_
       clear hK K
       try simp only [Act.put, sq]
       have HM9 := Lib.hid (HM8.out.below hB1 hBa)
       have hd9 := HM9.out.dr
       rw [hEk, hLk] at hd9
       have d3 := hd9.cell 3 rfl
       have d3f := hd9.frozen 3
       refine won 14 rfl fun K hK => ?_
       go_simp
       refine hK.out _ _ (fun h => absurd h (by decide)) ?_
       clear hK K
       try simp only [Act.put, sq]
       refine wpAnyM_done (by kernel_rfl) ?_ _
       try simp only [Act.put, sq]
       have hM10 := HM9.out.sess HA.out hkL ((findT S d.nm).1 : Int)
       rw [hEk] at hM10
       have HM10 := Lib.hid hM10
       clear HS hB0 hB1 hb1 HFd hd8 d3 d3f hd9 HM9 HM8 hM10
       obtain ⟨sx, hsx⟩ : ∃ q, ((findT S d.nm).1 : Int) = q := ⟨_, rfl⟩
       rw [hsx] at HM10
       try simp only [hsx]
       generalize w1.setCell ⟨g, 3, none⟩ (.int .i64 sx) = w10 at *
       have hkt := HM10.out.keys HA.out hkL
       rw [hEk, hLk] at hkt
       obtain ⟨pk, ck, hek⟩ := texts_form hkt
       dsimp only at hek hkt
       subst hek
       have htK8 := texts_at HOk.out HLow.out (show k + 1 ≤ Lm.length from hkL) HM10.out.far
       have hb010 : Below w.heap.size w w10 := HB0a.out.trans (HM10.out.bel.mono HB0a.out.size)
       have HMap := Lib.hid (fun w' (hb : Below w10.heap.size w10 w') => map_new w' (.slice pk d.ks.length ck) (.slice pK K.length cK) d.ks K (hkt.below hb) (htK8.below hb) (by omega) (by omega) HKs.out (Utf8Tabs_below HT.out (hb010.trans (hb.mono hb010.size))))
       obtain ⟨M, hM⟩ : ∃ M, mapT d.ks K = M := ⟨_, rfl⟩
       have HMl : RowKit.Hid (M.length = d.ops.length) := Lib.hid (by rw [← hM, mapT, List.length_map, HGd.out.len])
       have HMv : RowKit.Hid (∀ j, j < d.ops.length → M.getD j 0 = ((findT K (d.ks.getD j [])).1 : Int)) := Lib.hid (fun j hj => by
        have hj2 : j < d.ks.length := by rw [HGd.out.len]; exact hj
        have e := HKf.out (d.ks.getD j []) (by rw [show d.ks.getD j [] = d.ks[j] by simp [hj2]]; exact List.getElem_mem hj2)
        rw [← hM, ← e]
        simp [mapT, hj2])
       rw [hM] at HMap
       have hd10 := HM10.out.dr
       rw [hEk, hLk] at hd10
       have HS : RowKit.Hid (∀ w', Below w10.heap.size w10 w' → (w'.cell? ⟨g, 1, none⟩ = some (.slice pk d.ks.length ck) ∧ w'.cell? ⟨gh, 1, none⟩ = some (.slice pK K.length cK) ∧ Below w10.heap.size w10 w')) := Lib.hid (fun w' hb => ⟨cell_later hb (hd10.cell 1 rfl), cell_later hb (HM10.out.hb.cell 1 rfl), hb⟩)
       have ho10 := HM10.out.opi
       rw [hEk, hLk] at ho10
       have HOlt : RowKit.Hid (∀ q, Value.ownBlock (.slice pe d.ops.length ce) = some q → q < w10.drew.heap.size) := Lib.hid (fun q hq => own_lt ho10 hq)
       clear htK8 hb010 hkt hM ho10
       go_wp2_with fail
       refine wp_region_keep (fun w' => w'.cell? ⟨g, 1, none⟩ = some (.slice pk d.ks.length ck) ∧ w'.cell? ⟨gh, 1, none⟩ = some (.slice pK K.length cK) ∧ Below w10.heap.size w10 w') [] (by kernel_rfl) ?_
       have hB0 : Below (w10).heap.size (w10) (w10).drew := Below.drew (Below.refl _ _)
       have hS0 := HS.out _ hB0
       refine wfr 0 (v := ?_) rfl ?_ ?_
       rotate_left
       ·intro w' hw';go_simp;try with_reducible rfl
       try simp only [Act.put, sq]
       refine wfr 1 (v := ?_) rfl ?_ ?_
       rotate_left
       ·intro w' hw';go_simp;try with_reducible rfl
       try simp only [Act.put, sq]
       refine wfr 2 (v := ?_) rfl ?_ ?_
       rotate_left
       ·intro w' hw';go_simp;try with_reducible rfl
       try simp only [Act.put, sq]
       refine wtk 3 9 (v := ?_) rfl ?_ hS0 ?_
       rotate_left
       ·intro w' hw';(try dsimp only at hw');go_simp;try with_reducible rfl
       try simp only [Act.put, sq]
       refine wfr 4 (v := ?_) rfl ?_ ?_
       rotate_left
       ·intro w' hw';go_simp;try with_reducible rfl
       try simp only [Act.put, sq]
       refine wtk 5 9 (v := ?_) rfl ?_ hS0 ?_
       rotate_left
       ·intro w' hw';(try dsimp only at hw');go_simp;try with_reducible rfl
       try simp only [Act.put, sq]
       refine wfr 8 (v := ?_) rfl ?_ ?_
       rotate_left
       ·intro w' hw';go_simp;try with_reducible rfl
       try simp only [Act.put, sq]
       refine won 6 rfl fun K hK => ?_
       go_simp
       refine (HMap.out _ hB0).mono ?_
       rintro e w1 ⟨v4, rfl, hin, hnw, hb1⟩
       have hB1 := below_next hB0 hb1
       have hS1 := HS.out _ hB1
       obtain ⟨pI, cI, rfl, hint⟩ := hin
       refine hK.out _ _ (fun _ _ => hS1) ?_
       clear hK K hS0
       try simp only [Act.put, sq]
       refine won 7 rfl fun K hK => ?_
       go_simp
       refine hK.out _ _ (fun _ h => h) ?_
       clear hK K
       try simp only [Act.put, sq]
       refine wpAnyM_done (by kernel_rfl) ?_ _
       try simp only [Act.put, sq]
       have HM11 := Lib.hid (HM10.out.below hB1 hBa)
       have HIn := Lib.hid hint
       have HNw := Lib.hid hnw
       clear HS hB0 hB1 hb1 hint hnw HM10 hd10 HMap
       go_wp2_with fail
       go_loopw [82] (fun i wq => ∃ j : Nat, j ≤ M.length ∧ i = .int .i64 j ∧ HMid wa wc wq wa.heap.size gh k Lm E S K (.slice pS S.length cS) (.slice pK K.length cK) vt sx j ∧ ∀ q, Value.ownBlock (.slice pe d.ops.length ce) ≠ some q → q < w1.heap.size → wq.heap[q]? = w1.heap[q]?) (fun i _ => M.length - (RowKit.intOf i).toNat)
       case atStart => exact ⟨0, Nat.zero_le _, rfl, HM11.out, fun _ _ _ => rfl⟩
       case round =>
        obtain ⟨j, hj, rfl, hmq, hkeep⟩ := hrel
        have hoq := hmq.opi
        rw [hEk, hLk] at hoq
        have hdq := hmq.dr
        rw [hEk, hLk] at hdq
        by_cases hj1 : j < M.length
        ·have hjo : j < d.ops.length := by rw [← HMl.out]; exact hj1
         obtain ⟨gi, rfl, hci⟩ := HIn.out j hj1
         have hgi := HNw.out gi rfl
         have hgl : gi < w1.heap.size := World.block_lt_of_cell? w1 _ hci
         have q1 : wr.cell? ⟨gi, j, none⟩ = some (.int .i64 (M.getD j 0)) := by
          rw [World.cell?_of_block (a := ⟨gi, j, none⟩) (hkeep gi (fun e => by have := HOlt.out gi e; omega) hgl)]
          exact hci
         rw [HMv.out j hjo] at q1
         obtain ⟨go, cp, hgo⟩ := owns_pos hoq (by omega)
         injection hgo with e1 _ e3
         subst e1
         subst e3
         have c5 := hdq.cell 5 rfl
         have hfl : ((midO K d j).flatMap opc).length = d.ops.length * 4 := hoq.1
         obtain ⟨u, hu⟩ : ∃ u, ((midO K d j).flatMap opc)[j * 4 + 1]? = some u := ⟨_, List.getElem?_eq_getElem (by omega)⟩
         have q2 : wr.cell? ⟨go, j * 4 + 1, none⟩ = some u := (hoq.cellAt (j * 4 + 1) (by omega)).trans hu
         have q3 := hoq.frozenAt (j * 4 + 1)
         have hnx := hmq.op HA.out hkL (by rw [hEk, hLk]) (by rw [hLk]; exact HGd.out.len) (by rw [hLk]; exact hjo)
         rw [hLk] at hnx
         have HNx := Lib.hid hnx
         have HKp := Lib.hid hkeep
         obtain ⟨u2, hu2⟩ : ∃ q, ((findT K (d.ks.getD j [])).1 : Int) = q := ⟨_, rfl⟩
         rw [hu2] at HNx q1
         clear hmq hkeep hoq hdq hu hfl hnx hu2 hci hgi
         go_wp2_with fail
         go_roundw
         case rel => exact ⟨j + 1, by omega, by go_num, HNx.out, fun q h1 h2 => by rw [Below.heap_setCell _ _ _ _ (fun e => h1 (by rw [e]; rfl))]; exact HKp.out q h1 h2⟩
         case measure => simp [RowKit.intOf]; omega
        ·have hje : j = M.length := by omega
         rw [HMl.out] at hje
         subst hje
         have HMq := Lib.hid (hmq.below (Below.drew (Below.refl wr.heap.size wr)) hBa)
         have hbq := hmq.hb
         have HTx : RowKit.Hid (∀ (ob : Obj) v6 w6, w6.ownsRow wa.heap.size 47 3 v6 (k + 1) (((Lm.zip E).take k).flatMap (txc S) ++ [.int .i64 sx, .int .i64 d.fate, .slice pe d.ops.length ce]) → (wr.drew.alloc ob).grownBy w6 vt.ownBlock → (v6.ownBlock = vt.ownBlock ∨ v6.ownBlock = some (wr.drew.alloc ob).heap.size) →
           Blk w6 gh 25 [.slice pS S.length cS, .slice pK K.length cK, vt] ∧ HLoop wa wc (w6.setCell ⟨gh, 2, none⟩ v6) wa.heap.size gh (k + 1) Lm E S K (.slice pS S.length cS) (.slice pK K.length cK) v6 ∧ ∀ q, v6.ownBlock = some q → wc.heap.size ≤ q) := Lib.hid (fun ob v6 w6 h1 h2 h3 => by
          have hq := HMq.out
          rw [← hsx, ← hLk] at hq
          refine HMid.done HA.out HEl.out hq hkL (by rw [hLk]; exact ho) hgho hBa hvt ?_ h2 h3
          rw [hLk, hEk]
          unfold txc
          dsimp only
          rw [hsx]
          exact h1)
         obtain ⟨i3, hi3, hy0, hy1, hy2⟩ := info_parts info_ptx
         have hBq := Nat.le_trans hmq.bel.size (Nat.le_refl wr.heap.size)
         have hwaq : wa.heap.size ≤ wr.heap.size := hmq.bel.size
         clear hmq hkeep hoq
         go_wp2_with fail
         have HS : RowKit.Hid (∀ w', Below wr.heap.size wr w' → (w'.cell? ⟨gh, 2, none⟩ = some (vt) ∧ w'.cell? ⟨g, 3, none⟩ = some (.int .i64 sx) ∧ w'.cell? ⟨g, 4, none⟩ = some (.int .i64 d.fate) ∧ w'.cell? ⟨g, 5, none⟩ = some (.slice pe d.ops.length ce) ∧ Below wr.heap.size wr w')) := Lib.hid (fun w' hb => ⟨cell_later hb (hbq.cell 2 rfl), cell_later hb (hdq.cell 3 rfl), cell_later hb (hdq.cell 4 rfl), cell_later hb (hdq.cell 5 rfl), hb⟩)
         clear hdq hbq
         refine wp_region_keep (fun w' => w'.cell? ⟨gh, 2, none⟩ = some (vt) ∧ w'.cell? ⟨g, 3, none⟩ = some (.int .i64 sx) ∧ w'.cell? ⟨g, 4, none⟩ = some (.int .i64 d.fate) ∧ w'.cell? ⟨g, 5, none⟩ = some (.slice pe d.ops.length ce) ∧ Below wr.heap.size wr w') [7, 9] (by kernel_rfl) ?_
         have hB0 : Below (wr).heap.size (wr) (wr).drew := Below.drew (Below.refl _ _)
         have hS0 := HS.out _ hB0
         refine wfr 0 (v := ?_) rfl ?_ ?_
         rotate_left
         ·intro w' hw';go_simp;try with_reducible rfl
         try simp only [Act.put, sq]
         refine wtk 1 10 (v := ?_) rfl ?_ hS0 ?_
         rotate_left
         ·intro w' hw';(try dsimp only at hw');go_simp;try with_reducible rfl
         try simp only [Act.put, sq]
         refine won 2 rfl fun K hK => ?_
         go_simp
         refine hK.out _ _ (fun _ h => h) ?_
         clear hK K
         try simp only [Act.put, sq]
         refine won 3 rfl fun K hK => ?_
         go_simp
         refine hK.out _ _ (fun _ h => h) ?_
         clear hK K
         try simp only [Act.put, sq]
         refine won 4 rfl fun K hK => ?_
         go_simp
         refine hK.out _ _ (fun _ h => h) ?_
         clear hK K
         try simp only [Act.put, sq]
         refine won 5 rfl fun K hK => ?_
         go_simp
         refine hK.out _ _ (fun _ h => h) ?_
         clear hK K
         try simp only [Act.put, sq]
         refine won 6 rfl fun K hK => ?_
         go_simp
         refine hK.out _ _ (fun _ _ => HS.out _ (hB0.alloc (Nat.le_refl _) _)) ?_
         clear hK K
         try simp only [Act.put, sq]
         refine won 7 rfl fun K hK => ?_
         refine step_append_own_at (by rfl) _ _ 23 (by rfl) wa.heap.size 47 i3 (.agg #[.int .i64 0, .int .i64 0, .slice none 0 0]) 3 40 Tryz.underlying23 hi3 hy0 hy1 hy2 rfl (by decide) vt k (((Lm.zip E).take k).flatMap (txc S)) (by rfl) (HMq.out.row.alloc _) ⟨wr.heap.size, 0, none⟩ 1 1 [.int .i64 sx, .int .i64 d.fate, .slice pe d.ops.length ce] (by rfl) rfl (news_lit _ _ _ _ rfl) (ones_txc _ _ _ _ _) (by unfold maxLen; omega) (by omega) (by simp; omega) (fun v6 w6 hown6 hgrow6 hat6 => ?_)
         refine hK.out _ _ (fun h => absurd h (by decide)) ?_
         clear hK K
         try simp only [Act.put, sq]
         refine won 8 rfl fun K hK => ?_
         go_simp
         refine hK.out _ _ (fun _ h => h) ?_
         clear hK K
         try simp only [Act.put, sq]
         obtain ⟨p6, c6, rfl⟩ := owns_form hown6
         have hD := HTx.out _ _ _ hown6 hgrow6 hat6
         have HD := Lib.hid hD
         have h60 := hD.1.cell 2 rfl
         have h6f := hD.1.frozen 2
         clear hD hown6 hgrow6 hat6
         refine won 9 rfl fun K hK => ?_
         go_simp
         refine hK.out _ _ (fun h => absurd h (by decide)) ?_
         clear hK K
         try simp only [Act.put, sq]
         refine wpAnyM_done (by kernel_rfl) ?_ _
         try simp only [Act.put, sq]
         clear HS hS0 hB0 h60 h6f
         go_wp2_with fail
         go_roundw
         case rel => exact ⟨k + 1, _, by omega, by go_num, HD.out.2.1, HD.out.2.2⟩
         case measure => simp [RowKit.intOf]; omega
    ·have hke : k = E.length := by omega
     subst hke
     have hlv := hl
     rw [HEl.out] at hlv
     obtain ⟨pv, cv, rfl⟩ := owns_form hl.row
     have hq0 := hl.hb.cell 0 rfl
     have hq1 := hl.hb.cell 1 rfl
     have hq2 := hl.hb.cell 2 rfl
     have HRg := Lib.hid (HRA.out.below hl.bel (by omega))
     have r0 := HRg.out.cell 0 rfl
     have r1 := HRg.out.cell 1 rfl
     have r2 := HRg.out.cell 2 rfl
     have f0 := HRg.out.frozen 0
     have f1 := HRg.out.frozen 1
     have f2 := HRg.out.frozen 2
     have HRS := Lib.hid (((HRg.out.set 0 (.slice pS S.length cS)).set 1 (.slice pK K.length cK)).set 2 (.slice pv E.length cv))
     have hb9 : Below gr w wr := HAL.out.trans (hl.bel.mono (by omega))
     have HB9 := Lib.hid (((hb9.setCell (p := ⟨gr, 0, none⟩) (Nat.le_refl _) (.slice pS S.length cS)).setCell (p := ⟨gr, 1, none⟩) (Nat.le_refl _) (.slice pK K.length cK)).setCell (p := ⟨gr, 2, none⟩) (Nat.le_refl _) (.slice pv E.length cv))
     have HE := Lib.hid (hist_ok L HMP.out hlv.shut)
     rw [HS'.out, HK'.out] at HE
     have hfar : ∀ q, q ≠ gr → (((wr.setCell ⟨gr, 0, none⟩ (.slice pS S.length cS)).setCell ⟨gr, 1, none⟩ (.slice pK K.length cK)).setCell ⟨gr, 2, none⟩ (.slice pv E.length cv)).heap[q]? = wr.heap[q]? := fun q hq => by rw [Below.heap_setCell _ _ _ _ hq, Below.heap_setCell _ _ _ _ hq, Below.heap_setCell _ _ _ _ hq]
     have hgw : gr < wa.heap.size := by omega
     have hlow : gr < wb.heap.size := by have := hb2.size; omega
     have HT1 : RowKit.Hid (Texts (((wr.setCell ⟨gr, 0, none⟩ (.slice pS S.length cS)).setCell ⟨gr, 1, none⟩ (.slice pK K.length cK)).setCell ⟨gr, 2, none⟩ (.slice pv E.length cv)) (.slice pS S.length cS) S) := Lib.hid (HOf.out _ (fun q g1 g2 g3 => (hfar q (by omega)).trans (hlv.far q g3 g2 (fun j hj => ⟨fun e => by have := (HLow.out j hj).1; omega, fun e => by have := (HLow.out j hj).2 q e; omega⟩))))
     have HT2 : RowKit.Hid (Texts (((wr.setCell ⟨gr, 0, none⟩ (.slice pS S.length cS)).setCell ⟨gr, 1, none⟩ (.slice pK K.length cK)).setCell ⟨gr, 2, none⟩ (.slice pv E.length cv)) (.slice pK K.length cK) K) := Lib.hid (HOk.out _ (fun q g1 g2 g3 => (hfar q (by omega)).trans (hlv.far q g3 g2 (fun j hj => ⟨fun e => by have := (HLow.out j hj).1; omega, fun e => by have := (HLow.out j hj).2 q e; omega⟩))))
     have HT3 : RowKit.Hid (TxnsS (((wr.setCell ⟨gr, 0, none⟩ (.slice pS S.length cS)).setCell ⟨gr, 1, none⟩ (.slice pK K.length cK)).setCell ⟨gr, 2, none⟩ (.slice pv E.length cv)) (.slice pv E.length cv) (Lm.map (txnD S K))) := Lib.hid (txns_of (owns_far (a := ⟨gr, 2, none⟩) (owns_far (a := ⟨gr, 1, none⟩) (owns_far (a := ⟨gr, 0, none⟩) hlv.row hgw _) hgw _) hgw _) (fun j hj => owns_far (a := ⟨gr, 2, none⟩) (owns_far (a := ⟨gr, 1, none⟩) (owns_far (a := ⟨gr, 0, none⟩) (hlv.ops j hj) hgw _) hgw _) hgw _) HEl.out hG)
     clear hfar hlv hl
     go_wp21
     rw [HE.out]
     refine bodyPost_ret (ret_h _ _ _ HRS.out rfl rfl rfl) rfl ⟨_, rfl, ⟨_, _, _, rfl, HT1.out, HT2.out, HT3.out⟩, ?_⟩
     rw [hgr]
     exact HB9.out
 ·have hfb : (er != 0) = true := by simpa using her
  have HE := Lib.hid (hist_err L HMP.out her)
  have r0 := HR2.out.cell 0 rfl
  have r1 := HR2.out.cell 1 rfl
  have r2 := HR2.out.cell 2 rfl
  have f0 := HR2.out.frozen 0
  have f1 := HR2.out.frozen 1
  have f2 := HR2.out.frozen 2
  have HRS := Lib.hid (((HR2.out.set 0 (.slice none 0 0)).set 1 (.slice none 0 0)).set 2 (.slice none 0 0))
  have hb3 : Below gr w wb := HAL.out.trans (hb2.mono (by omega))
  clear her hmi
  go_wp21
  rw [HE.out]
  refine bodyPost_ret (ret_h _ _ _ HRS.out rfl rfl rfl) rfl ⟨_, rfl, histV_no _, ?_⟩
  rw [hgr]
  exact ((hb3.setCell (Nat.le_refl _) _).setCell (Nat.le_refl _) _).setCell (Nat.le_refl _) _
end Go.Proofs.YtmgchjddpmmglaaGreatDoor
