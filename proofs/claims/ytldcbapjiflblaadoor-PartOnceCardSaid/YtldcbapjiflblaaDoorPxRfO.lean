/-
  Layer 20 (part): the document's Of, walked: a graph's parts, found one by one. No conditions.
-/
import Derived.Test.YtldcbapjiflblaaDoorPxFiF
import Derived.Test.YtldcbapjiflblaaDoorPxRfR
namespace Go.Proofs.YtldcbapjiflblaaDoor
open Go.RowKit Go.Lib
open Classical in
noncomputable def memO (N : List EdgM) (a b : Nat) : Bool := decide (b = a ∨ (Relation.TransGen (EdgL N) a b ∧ Relation.TransGen (EdgL N) b a))
theorem memO_iff (N : List EdgM) (a b : Nat) : memO N a b = true ↔ (b = a ∨ (Relation.TransGen (EdgL N) a b ∧ Relation.TransGen (EdgL N) b a)) := by
 unfold memO
 simp only [decide_eq_true_eq]
noncomputable def classO (N : List EdgM) (a k : Nat) : List Nat := (List.range k).filter (memO N a)
theorem classO_next (N : List EdgM) (a k : Nat) : classO N a (k + 1) = classO N a k ++ (if memO N a k then [k] else []) := by
 unfold classO
 rw [List.range_succ, List.filter_append]
 congr 1
 simp only [List.filter_cons, List.filter_nil]
theorem classO_len (N : List EdgM) (a k : Nat) : (classO N a k).length ≤ k := by
 unfold classO
 have := List.length_filter_le (memO N a) (List.range k)
 rwa [List.length_range] at this
theorem mem_classO (N : List EdgM) (a k y : Nat) : y ∈ classO N a k ↔ y < k ∧ ReachP (EdgL N) a y ∧ ReachP (EdgL N) y a := by
 unfold classO ReachP
 rw [List.mem_filter, List.mem_range, memO_iff]
 constructor
 ·rintro ⟨h, rfl | ⟨h1, h2⟩⟩
  ·exact ⟨h, .inl rfl, .inl rfl⟩
  ·exact ⟨h, .inr h1, .inr h2⟩
 ·rintro ⟨h, h1, h2⟩
  refine ⟨h, ?_⟩
  rcases h1 with e | h1
  ·exact .inl e.symm
  ·rcases h2 with e | h2
   ·exact .inl e
   ·exact .inr ⟨h1, h2⟩
theorem classO_sorted (N : List EdgM) (a k : Nat) : (classO N a k).Pairwise (· < ·) := List.pairwise_lt_range.sublist (List.filter_sublist ..)
def DoneO (n : Nat) (P : List (List Nat)) (C : List Nat) (J : List Bool) : Prop := J.length = n ∧ ∀ x, x < n → (J.getD x false = true ↔ ((∃ L ∈ P, x ∈ L) ∨ x ∈ C))
theorem DoneO.start (n : Nat) : DoneO n [] [] (List.replicate n false) := ⟨by simp, fun x hx => by simp [hx]⟩
theorem DoneO.put {n : Nat} {P : List (List Nat)} {C : List Nat} {J : List Bool} (h : DoneO n P C J) (b : Nat) (hb : b < n) : DoneO n P (C ++ [b]) (J.set b true) := by
 refine ⟨by rw [List.length_set]; exact h.1, fun x hx => ?_⟩
 rw [set_at]
 by_cases e : b = x
 ·subst e
  rw [if_pos ⟨rfl, by rw [h.1]; exact hb⟩]
  simp
 ·rw [if_neg (fun q => e q.1), h.2 x hx]
  have e2 : ¬ x = b := fun q => e q.symm
  simp [e2]
theorem DoneO.close {n : Nat} {P : List (List Nat)} {C : List Nat} {J : List Bool} (h : DoneO n P C J) : DoneO n (P ++ [C]) [] J := ⟨h.1, fun x hx => by
 rw [h.2 x hx]
 simp only [List.mem_append, List.mem_singleton, List.not_mem_nil, or_false]
 constructor
 ·rintro (⟨L, hL, hx⟩ | hx)
  ·exact ⟨L, .inl hL, hx⟩
  ·exact ⟨C, .inr rfl, hx⟩
 ·rintro ⟨L, hL | rfl, hx⟩
  ·exact .inl ⟨L, hL, hx⟩
  ·exact .inr hx⟩
def OutO (w : World) (B bd N0 : Nat) (vo : Value) (ps : List Value) (P : List (List Nat)) (J : List Bool) : Prop := w.ownsRow B 29 1 vo ps.length ps ∧ LiesL w (fun g => g < N0) ps P ∧ Blk w bd 4 (vbl J)
theorem OutO.later {w w' : World} {B bd N0 : Nat} {vo : Value} {ps : List Value} {P : List (List Nat)} {J : List Bool} (h : OutO w B bd N0 vo ps P J) (hb : Below w.heap.size w w') : OutO w' B bd N0 vo ps P J :=
 ⟨owns_later h.1 hb, h.2.1.kept (fun g _ hg ho => ⟨hb.block g (Array.getElem?_eq_some_iff.1 hg).1, ho⟩), h.2.2.later hb⟩
theorem OutO.grown {w w' : World} {B bd N0 base n : Nat} {vo v : Value} {ps xs : List Value} {P : List (List Nat)} {J : List Bool} (h : OutO w B bd N0 vo ps P J) (hr : w.ownsRow base 3 1 v n xs) (hN : N0 ≤ base) (hg : w.grownBy w' v.ownBlock) : OutO w' B bd N0 vo ps P J :=
 ⟨owns_other h.1 hr (by decide) hg, h.2.1.kept (fun g _ h1 ho => ⟨hg.block g (Array.getElem?_eq_some_iff.1 h1).1 (fun q => by have := (hr.lt g q.symm).1; omega), ho⟩), box_grown h.2.2 hr (by decide) hg⟩
theorem OutO.store {w : World} {B bd N0 : Nat} {vo : Value} {ps : List Value} {P : List (List Nat)} {J : List Bool} (h : OutO w B bd N0 vo ps P J) (b : Nat) : OutO (w.setCell ⟨bd, b, none⟩ (.bool true)) B bd N0 vo ps P (J.set b true) :=
 ⟨owns_store h.1 h.2.2 (by decide) b _, h.2.1.kept (fun g _ hg ho => ⟨heap_set_ne (ty_ne hg h.2.2 (by decide)), ho⟩), by rw [← vbl_set]; exact h.2.2.set b _⟩
theorem OutO.more {w w' : World} {B bd N0 : Nat} {vo vo' v : Value} {ps : List Value} {P : List (List Nat)} {J : List Bool} {C : List Nat} (h : OutO w B bd N0 vo ps P J) (hv : Lies w (fun _ => True) v C) (hown : w'.ownsRow B 29 1 vo' (ps.length + 1) (ps ++ [v])) (hg : w.grownBy w' vo.ownBlock) (N1 : Nat) (hN : w.heap.size ≤ N1) : OutO w' B bd N1 vo' (ps ++ [v]) (P ++ [C]) J := by
 have hk : ∀ (ok : Nat → Prop) g cur, w.heap[g]? = some (.cells cur 3 (0, 0)) → ok g → w'.heap[g]? = w.heap[g]? ∧ g < N1 := fun ok g cur hg2 _ => ⟨hg.block g (Array.getElem?_eq_some_iff.1 hg2).1 (fun q => own_ne h.1 hg2 (by decide) q.symm), by have := (Array.getElem?_eq_some_iff.1 hg2).1; omega⟩
 exact ⟨by rw [List.length_append]; exact hown, (h.2.1.kept (hk _)).snoc (hv.kept (hk _)), box_grown h.2.2 h.1 (by decide) hg⟩
theorem OutO.wide {w : World} {B bd N0 N1 : Nat} {vo : Value} {ps : List Value} {P : List (List Nat)} {J : List Bool} (h : OutO w B bd N0 vo ps P J) (hN : N0 ≤ N1) : OutO w B bd N1 vo ps P J := ⟨h.1, h.2.1.kept (fun g _ _ ho => ⟨rfl, by omega⟩), h.2.2⟩
theorem info_slO : (Tryd.prog.info? 29).map (fun i => (i.zero, i.size, i.bytes)) = some (some (.slice none 0 0), 1, 24) := by kernel_rfl
def BetO (n : Nat) (N : List EdgM) (k : Nat) (P : List (List Nat)) (J : List Bool) : Prop := PartsK n (EdgL N) k P ∧ (∀ L ∈ P, L.headD 0 < k) ∧ DoneO n P [] J ∧ P.length ≤ k
set_option maxRecDepth 100000 in
set_option maxHeartbeats 4000000 in
theorem rparts20_any (n : Nat) (hn : n ≤ 500) (p : Option Addr) (c : Nat) (N : List EdgM) (hN : ∀ e ∈ N, e.1 < n ∧ e.2 < n) (w : World) (h : HasE w p (intsE N)) (hL : N.length ≤ 900) :
  Calls Tryd.prog 12 #[.int .i64 (n : Nat), .slice p N.length c] w fun e w' => ∃ p' c' P, e = .returned (.slice p' P.length c') ∧ PartsK n (EdgL N) n P ∧ HasPs w' p' P ∧ Below w.heap.size w w' := by
 have HX := Lib.hid h
 have HN := Lib.hid hN
 obtain ⟨i0, hi, hz0, hz1, hz2⟩ := info_parts info_boolP
 obtain ⟨i1, hj, hj0, hj1, hj2⟩ := info_parts info_nat
 obtain ⟨i2, hk, hk0, hk1, hk2⟩ := info_parts info_slO
 have mkB : ∀ W : World, (Instr.makeSlice 44 (.int .i64 (n : Int)) (.int .i64 (n : Int))).run Tryd.prog W = .ok (.slice (some ⟨W.heap.size, 0, none⟩) n n) (W.alloc (.cells (vbl (List.replicate n false)).toArray 4)) := fun W => by
  have hr := run_make (P := Tryd.prog) W 44 4 i0 (.bool false) Tryd.underlying44 hi hz0 .i64 .i64 n n (by omega) (Int.le_refl _) (by rw [hz2]; omega) (by omega)
  rw [hz1] at hr
  rw [← made_vbl]
  simp only [Int.toNat_natCast, Nat.mul_one] at hr
  exact hr
 clear h hN hi hz0 hz1 hz2
 go_enter Tryd.func12, Tryd.ntmps12
 go_upto_region 1 with fail
 go_cut [5, 6] (fun s5 s6 wx => ∃ bd, wx.ownsRow w.heap.size 29 1 s5 0 [] ∧ s6 = .slice (some ⟨bd, 0, none⟩) n n ∧ Blk wx bd 4 (vbl (List.replicate n false)) ∧ w.heap.size ≤ bd ∧ Below w.heap.size w wx)
 case first =>
  have HS : RowKit.Hid (∀ w', Below w.heap.size w w' → Below w.heap.size w w') := Lib.hid (fun _ h => h)
  refine wpk HS [] (by kernel_rfl) fun hB0 _ => ?_
  obtain ⟨wd, hwd⟩ : ∃ q, (w).drew = q := ⟨_, rfl⟩
  rw [hwd] at hB0 ⊢
  clear hwd
  refine wfr 1 (v := ?_) rfl ?_ ?_
  rotate_left
  ·intro w' hw';go_simp;try with_reducible rfl
  try simp only [Act.put, sq]
  refine wpAnyM_two 0 2 rfl rfl (by kernel_rfl) (fun K hK => ?_) (fun K hK => ?_)
  ·go_simp
   have hA1 := hB0.alloc hB0.size (.cells #[] 29)
   have HO := Lib.hid (World.ownsRow_made (base := w.heap.size) (size := 1) (e := 29) wd #[] 0 hB0.size (Nat.zero_le _) rfl)
   refine hK.out _ _ (fun _ _ => HS.out _ hA1) ?_
   clear hK K
   try simp only [Act.put, sq]
   obtain ⟨wa1, hwa1⟩ : ∃ q, wd.alloc (.cells #[] 29) = q := ⟨_, rfl⟩
   obtain ⟨gb1, hgb1⟩ : ∃ q, wd.heap.size = q := ⟨_, rfl⟩
   have hlt1 : w.heap.size ≤ gb1 := by rw [← hgb1]; exact hB0.size
   simp only [hwa1, hgb1] at hA1 HO ⊢
   clear hwa1 hgb1
   refine wpAnyM_two 2 3 rfl rfl (by kernel_rfl) (fun K hK => ?_) (fun K hK => ?_)
   ·go_simp
    have hA2 := hA1.alloc hA1.size (.cells (vbl (List.replicate n false)).toArray 4)
    have HD := Lib.hid (Blk.new wa1 4 (vbl (List.replicate n false)))
    replace HO := Lib.hid (HO.out.alloc (.cells (vbl (List.replicate n false)).toArray 4))
    refine hK.out _ _ (fun _ _ => HS.out _ hA2) ?_
    clear hK K
    try simp only [Act.put, sq]
    obtain ⟨wa2, hwa2⟩ : ∃ q, wa1.alloc (.cells (vbl (List.replicate n false)).toArray 4) = q := ⟨_, rfl⟩
    obtain ⟨gb2, hgb2⟩ : ∃ q, wa1.heap.size = q := ⟨_, rfl⟩
    have hlt2 : w.heap.size ≤ gb2 := by rw [← hgb2]; exact hA1.size
    simp only [hwa2, hgb2] at hA2 HO HD ⊢
    clear hwa2 hgb2
    refine won 3 rfl fun K hK => ?_
    go_simp
    refine hK.out _ _ (fun _ h => h) ?_
    clear hK K
    try simp only [Act.put, sq]
    refine won 4 rfl fun K hK => ?_
    go_simp
    refine hK.out _ _ (fun _ h => h) ?_
    clear hK K
    try simp only [Act.put, sq]
    refine wpAnyM_done (by kernel_rfl) ?_ _
    try simp only [Act.put, sq]
    have HB9 := Lib.hid hA2
    clear hA2
    go_wp2_with fail
    go_meet
    exact ⟨gb2, HO.out, rfl, HD.out, by omega, HB9.out⟩
   ·go_simp
    refine hK.out _ _ (fun _ h => h) ?_
    clear hK K
    try simp only [Act.put, sq]
    refine won 2 rfl fun K hK => ?_
    go_simp
    have hA2 := hA1.alloc hA1.size (.cells (vbl (List.replicate n false)).toArray 4)
    have HD := Lib.hid (Blk.new wa1 4 (vbl (List.replicate n false)))
    replace HO := Lib.hid (HO.out.alloc (.cells (vbl (List.replicate n false)).toArray 4))
    refine hK.out _ _ (fun _ _ => HS.out _ hA2) ?_
    clear hK K
    try simp only [Act.put, sq]
    obtain ⟨wa2, hwa2⟩ : ∃ q, wa1.alloc (.cells (vbl (List.replicate n false)).toArray 4) = q := ⟨_, rfl⟩
    obtain ⟨gb2, hgb2⟩ : ∃ q, wa1.heap.size = q := ⟨_, rfl⟩
    have hlt2 : w.heap.size ≤ gb2 := by rw [← hgb2]; exact hA1.size
    simp only [hwa2, hgb2] at hA2 HO HD ⊢
    clear hwa2 hgb2
    refine won 4 rfl fun K hK => ?_
    go_simp
    refine hK.out _ _ (fun _ h => h) ?_
    clear hK K
    try simp only [Act.put, sq]
    refine wpAnyM_done (by kernel_rfl) ?_ _
    try simp only [Act.put, sq]
    have HB9 := Lib.hid hA2
    clear hA2
    go_wp2_with fail
    go_meet
    exact ⟨gb2, HO.out, rfl, HD.out, by omega, HB9.out⟩
  ·go_simp
   have hA1 := hB0.alloc hB0.size (.cells (vbl (List.replicate n false)).toArray 4)
   have HD := Lib.hid (Blk.new wd 4 (vbl (List.replicate n false)))
   refine hK.out _ _ (fun _ _ => HS.out _ hA1) ?_
   clear hK K
   try simp only [Act.put, sq]
   obtain ⟨wa1, hwa1⟩ : ∃ q, wd.alloc (.cells (vbl (List.replicate n false)).toArray 4) = q := ⟨_, rfl⟩
   obtain ⟨gb1, hgb1⟩ : ∃ q, wd.heap.size = q := ⟨_, rfl⟩
   have hlt1 : w.heap.size ≤ gb1 := by rw [← hgb1]; exact hB0.size
   simp only [hwa1, hgb1] at hA1 HD ⊢
   clear hwa1 hgb1
   refine won 0 rfl fun K hK => ?_
   go_simp
   have hA2 := hA1.alloc hA1.size (.cells #[] 29)
   have HO := Lib.hid (World.ownsRow_made (base := w.heap.size) (size := 1) (e := 29) wa1 #[] 0 hA1.size (Nat.zero_le _) rfl)
   replace HD := Lib.hid (HD.out.alloc (.cells #[] 29))
   refine hK.out _ _ (fun _ _ => HS.out _ hA2) ?_
   clear hK K
   try simp only [Act.put, sq]
   obtain ⟨wa2, hwa2⟩ : ∃ q, wa1.alloc (.cells #[] 29) = q := ⟨_, rfl⟩
   obtain ⟨gb2, hgb2⟩ : ∃ q, wa1.heap.size = q := ⟨_, rfl⟩
   have hlt2 : w.heap.size ≤ gb2 := by rw [← hgb2]; exact hA1.size
   simp only [hwa2, hgb2] at hA2 HD HO ⊢
   clear hwa2 hgb2
   refine won 3 rfl fun K hK => ?_
   go_simp
   refine hK.out _ _ (fun _ h => h) ?_
   clear hK K
   try simp only [Act.put, sq]
   refine won 4 rfl fun K hK => ?_
   go_simp
   refine hK.out _ _ (fun _ h => h) ?_
   clear hK K
   try simp only [Act.put, sq]
   refine wpAnyM_done (by kernel_rfl) ?_ _
   try simp only [Act.put, sq]
   have HB9 := Lib.hid hA2
   clear hA2
   go_wp2_with fail
   go_meet
   exact ⟨gb1, HO.out, rfl, HD.out, by omega, HB9.out⟩
 case rest =>
  obtain ⟨bd, hso, rfl, hbd, hBd, hbc⟩ := hcut
  clear mkB
  have HBd := Lib.hid hBd
  have hoc : OutO wc w.heap.size bd wc.heap.size _ [] [] (List.replicate n false) := ⟨hso, ⟨rfl, fun i hi => absurd hi (Nat.not_lt_zero i)⟩, hbd⟩
  have HOc := Lib.hid hoc
  have HBc := Lib.hid hbc
  clear hso hbd hBd hbc hoc
  obtain ⟨WC, rfl⟩ : ∃ q, q = wc := ⟨_, rfl⟩
  go_wp2_with fail
  go_loopw [5, 7] (fun vo i wr => ∃ k : Nat, k ≤ n ∧ i = .int .i64 k ∧ (∃ P ps J, BetO n N k P J ∧ OutO wr w.heap.size bd wr.heap.size vo ps P J) ∧ Below w.heap.size w wr) (fun _ i _ => n - (RowKit.intOf i).toNat)
  case atStart => exact ⟨0, Nat.zero_le _, rfl, ⟨[], [], _, ⟨parts_none n _, fun L hL => absurd hL List.not_mem_nil, DoneO.start n, Nat.le_refl _⟩, HOc.out⟩, HBc.out⟩
  case round =>
   obtain ⟨k, hkn, rfl, ⟨P, ps, J, hbet, hout⟩, hbw⟩ := hrel
   obtain ⟨po, co, rfl⟩ := owns_form hout.1
   have HBet := Lib.hid hbet
   have HOut := Lib.hid hout
   have HBw := Lib.hid hbw
   have HPl : RowKit.Hid (ps.length = P.length ∧ P.length ≤ k) := Lib.hid ⟨hout.2.1.1, hbet.2.2.2⟩
   by_cases hlt : k < n
   ·have d1 := hout.2.2.cell k (vbl_at J k (by rw [hbet.2.2.1.1]; exact hlt))
    have HJk : RowKit.Hid (J.getD k false = true ↔ ∃ L ∈ P, k ∈ L) := Lib.hid (by
     rw [hbet.2.2.1.2 k hlt]
     simp)
    obtain ⟨t, ht⟩ : ∃ t, J.getD k false = t := ⟨_, rfl⟩
    rw [ht] at d1 HJk
    clear hout hbet hbw ht
    cases t with
    | true =>
     have HBe2 : RowKit.Hid (BetO n N (k + 1) P J) := Lib.hid ⟨parts_same HBet.out.1 (HJk.out.1 rfl), fun L hL => Nat.lt_succ_of_lt (HBet.out.2.1 L hL), HBet.out.2.2.1, by have := HPl.out; omega⟩
     go_wp2_with fail
     go_roundw
     case rel => exact ⟨k + 1, by omega, by go_num, ⟨P, ps, J, HBe2.out, HOut.out⟩, HBw.out⟩
     case measure => simp [RowKit.intOf]; omega
    | false =>
     have HNk : RowKit.Hid (∀ L ∈ P, k ∉ L) := Lib.hid (fun L hL hk => by cases HJk.out.2 ⟨L, hL, hk⟩)
     clear HJk
     have HA1 := Lib.hid ((Below.refl wr.heap.size wr).alloc (Nat.le_refl _) (.cells #[] 3))
     have HR1 := Lib.hid (World.ownsRow_made (base := wr.heap.size) (size := 1) (e := 3) wr #[] 0 (Nat.le_refl _) (Nat.zero_le _) rfl)
     have HF := Lib.hid (rfrom_any n hn p c N HN.out k _ (HX.out.below (below_next HBw.out HA1.out)) hL)
     obtain ⟨wo, rfl⟩ : ∃ q, q = wr := ⟨_, rfl⟩
     go_wp2_with fail
     refine HF.out.mono ?_
     rintro e w1 ⟨vf, rfl, hof, hb1⟩
     have HP1 : RowKit.Hid (w1.ownsRow wo.heap.size 3 1 (.slice (some ⟨wo.heap.size, 0, none⟩) 0 0) 0 []) := Lib.hid (owns_later HR1.out hb1)
     have HD1 : RowKit.Hid (Parted (.slice (some ⟨wo.heap.size, 0, none⟩) 0 0) vf) := Lib.hid (fun g h1 h2 => by
      have h3 := (hof.lt g h2).1
      simp [Value.ownBlock] at h1
      simp at h3
      omega)
     have HF1 : RowKit.Hid (w1.ownsRow wo.heap.size 3 1 vf (fromF n N k).length (vnats (fromF n N k))) := Lib.hid (owns_base hof (by simp; omega))
     have HB1 := Lib.hid (below_next HA1.out hb1)
     have HO1 := Lib.hid (HOut.out.later HB1.out)
     obtain ⟨pf, cf, rfl⟩ := owns_form hof
     obtain ⟨fl, hfl⟩ : ∃ fl, (fromF n N k).length = fl := ⟨_, rfl⟩
     have HFl := Lib.hid hfl
     rw [hfl] at HD1 HF1 ⊢
     clear hof hb1 HF HR1 HA1 HOut hfl
     obtain ⟨N0, hN0⟩ : ∃ q, wo.heap.size = q := ⟨_, rfl⟩
     have HN0 := Lib.hid hN0
     simp only [hN0] at HP1 HD1 HF1 HB1 HO1 ⊢
     clear hN0
     go_wp2_with fail
     go_loopw [8, 10] (fun vp i wx => ∃ b : Nat, b ≤ n ∧ i = .int .i64 b ∧ wx.ownsRow N0 3 1 vp (classO N k b).length (vnats (classO N k b)) ∧ Parted vp (.slice pf fl cf) ∧ wx.ownsRow N0 3 1 (.slice pf fl cf) (fromF n N k).length (vnats (fromF n N k)) ∧ (∃ J', DoneO n P (classO N k b) J' ∧ OutO wx w.heap.size bd N0 (.slice po ps.length co) ps P J') ∧ Below w.heap.size w wx ∧ N0 ≤ wx.heap.size) (fun _ i _ => n - (RowKit.intOf i).toNat)
     case atStart => exact ⟨0, Nat.zero_le _, rfl, HP1.out, HD1.out, by rw [HFl.out]; exact HF1.out, ⟨J, HBet.out.2.2.1, HO1.out⟩, by have := HB1.out; rw [← HN0.out] at this; exact below_next HBw.out this, by have := HB1.out.size; rw [HN0.out] at this; exact this⟩
     case round =>
      obtain ⟨b, hbn, rfl, hvp, hD, hvf, ⟨J', hdn, hou⟩, hbx, hNx⟩ := hrel
      obtain ⟨pp, cp, rfl⟩ := owns_form hvp
      have HV := Lib.hid hvp
      have HD := Lib.hid hD
      have HVf := Lib.hid hvf
      have HDn := Lib.hid hdn
      have HOu := Lib.hid hou
      have HBx := Lib.hid hbx
      have HNx := Lib.hid hNx
      have hcl := classO_len N k b
      obtain ⟨C, hC⟩ : ∃ C, classO N k b = C := ⟨_, rfl⟩
      have HCn := Lib.hid (classO_next N k b)
      rw [hC] at HV HD HDn HCn hcl ⊢
      have HC := Lib.hid hC
      clear hvp hD hvf hdn hou hbx hNx hC
      by_cases hlb : b < n
      ·go_upto_region 10 with fail
       obtain ⟨wx, rfl⟩ : ∃ q, q = wr := ⟨_, rfl⟩
       go_cut [48] (fun s48 wy => ∃ r, s48 = .bool r ∧ memO N k b = r ∧ Below wx.heap.size wx wy)
       case first =>
        by_cases hbk : b = k
        ·have HM : RowKit.Hid (memO N k b = true) := Lib.hid ((memO_iff N k b).2 (.inl hbk))
         have e0 : ((b : Int) == (k : Int)) = true := by rw [beq_iff_eq]; omega
         clear hbk
         go_wp2_with fail
         go_meet
         exact ⟨true, rfl, HM.out, Below.refl _ _⟩
        ·have HBk := Lib.hid hbk
         have e0 : ((b : Int) == (k : Int)) = false := by
          rw [beq_eq_false_iff_ne]
          omega
         have HH1 := Lib.hid (hasfrom_any n hn N k b hlb HVf.out)
         clear hbk
         go_wp2_with fail
         refine HH1.out.mono ?_
         rintro e wy ⟨r1, rfl, hr1, hby⟩
         have HR1 := Lib.hid hr1
         have HBy := Lib.hid hby
         have HF2 := Lib.hid (rfrom_any n hn p c N HN.out b wy (HX.out.below (below_next HBx.out hby)) hL)
         clear hr1 hby HH1
         cases r1 with
         | false =>
          have HM : RowKit.Hid (memO N k b = false) := Lib.hid (by
           rw [← Bool.not_eq_true, memO_iff]
           rintro (q | ⟨q, -⟩)
           ·exact HBk.out q
           ·cases HR1.out.2 q)
          go_wp2_with fail
          go_meet
          exact ⟨false, rfl, HM.out, HBy.out⟩
         | true =>
          go_wp2_with fail
          refine HF2.out.mono ?_
          rintro e wz ⟨v2, rfl, hof2, hbz⟩
          have HH2 := Lib.hid (hasfrom_any n hn N b k hlt hof2)
          have HBz := Lib.hid (below_next HBy.out hbz)
          obtain ⟨p2, c2, rfl⟩ := owns_form hof2
          clear hof2 hbz HF2
          go_wp2_with fail
          refine HH2.out.mono ?_
          rintro e wu ⟨r2, rfl, hr2, hbu⟩
          have HM : RowKit.Hid (memO N k b = r2) := Lib.hid (by
           rw [Bool.eq_iff_iff, memO_iff]
           constructor
           ·rintro (q | ⟨-, q⟩)
            ·exact absurd q HBk.out
            ·exact hr2.2 q
           ·intro q
            exact .inr ⟨HR1.out.1 (by first | rfl | trivial), hr2.1 q⟩)
          have HBu := Lib.hid (below_next HBz.out hbu)
          clear hr2 hbu HH2
          go_wp2_with fail
          go_meet
          exact ⟨r2, rfl, HM.out, HBu.out⟩
       case rest =>
        obtain ⟨r, rfl, hm, hby⟩ := hcut
        obtain ⟨wy, rfl⟩ : ∃ q, q = wc := ⟨_, rfl⟩
        rw [hm] at HCn
        have HV2 := Lib.hid (owns_later HV.out hby)
        have HVf2 := Lib.hid (owns_later HVf.out hby)
        have HOu2 := Lib.hid (HOu.out.later hby)
        have HBy := Lib.hid (below_next HBx.out hby)
        have HNy : RowKit.Hid (N0 ≤ wy.heap.size) := Lib.hid (Nat.le_trans HNx.out hby.size)
        clear hm hby HV HVf HOu HBx HNx
        cases r with
        | false =>
         have HC2 : RowKit.Hid (classO N k (b + 1) = C) := Lib.hid (by rw [HCn.out]; simp)
         go_wp2_with fail
         go_roundw
         case rel => exact ⟨b + 1, by omega, by go_num, by rw [HC2.out]; exact HV2.out, HD.out, HVf2.out, ⟨J', by rw [HC2.out]; exact HDn.out, HOu2.out⟩, HBy.out, HNy.out⟩
         case measure => simp [RowKit.intOf]; omega
        | true =>
         have HC2 : RowKit.Hid (classO N k (b + 1) = C ++ [b]) := Lib.hid (by rw [HCn.out]; simp)
         have hX : Below wy.heap.size wy (wy.alloc (.cells #[.int .i64 (b : Nat)] 3)) := (Below.refl _ _).alloc (Nat.le_refl _) _
         have hrow := HV2.out.alloc (.cells #[.int .i64 (b : Nat)] 3)
         have HVf3 := Lib.hid (owns_later HVf2.out hX)
         have HOu3 := Lib.hid (HOu2.out.later hX)
         have HBy3 := Lib.hid (below_next HBy.out hX)
         clear hX HVf2 HOu2
         go_wp2_with (at_builtin; refine wpList_append_own_at _ rfl _ _ 29 rfl N0 3 i1 (.int .i64 0) 1 8 Tryd.underlying29 hj hj0 hj1 hj2 rfl (by decide) _ _ _ rfl hrow ⟨wy.heap.size, 0, none⟩ 1 1 [.int .i64 (b : Nat)] rfl rfl (news_lit wy [.int .i64 (b : Nat)] _ _ rfl) (ones_nat _) ?_ ?_ (Nat.le_trans HNy.out (by simp)) ?_)
         ·unfold maxLen
          omega
         ·omega
         intro v' w4 hown4 hg4 hnil4 hat4
         have hat5 : v'.ownBlock = (Value.slice pp C.length cp).ownBlock ∨ v'.ownBlock = some (wy.alloc (.cells #[.int .i64 (b : Nat)] 3)).heap.size := by simpa using hat4
         have HD4 := Lib.hid (Parted.grow HD.out hat5 HVf3.out)
         have HVf4 := Lib.hid (owns_beside HVf3.out hg4 (fun q h1 h2 => HD.out q h2 h1))
         have hO4 := HOu3.out.grown hrow (Nat.le_refl _) hg4
         have hNw : w.heap.size ≤ N0 := by rw [← HN0.out]; exact HBw.out.size
         have HB4 := Lib.hid (HBy3.out.grown hg4 HBy3.out.size (fun q hq => Nat.le_trans hNw (hrow.lt q hq).1))
         have hs4 : N0 ≤ w4.heap.size := Nat.le_trans HNy.out (Nat.le_trans (by simp) hg4.size)
         have HO4 := Lib.hid hO4
         have f4 := hO4.2.2.frozen b
         have q4 := hO4.2.2.cell b (vbl_at J' b (by rw [HDn.out.1]; exact hlb))
         have HV4 : RowKit.Hid (w4.ownsRow N0 3 1 v' (C ++ [b]).length (vnats (C ++ [b]))) := Lib.hid (by
          rw [← vnats_snoc, List.length_append]
          exact hown4)
         obtain ⟨p4, c4, rfl⟩ := owns_form hown4
         have HO5 := Lib.hid (hO4.store b)
         have HV5 := Lib.hid (owns_store HV4.out hO4.2.2 (by decide) b (.bool true))
         have HVf5 := Lib.hid (owns_store HVf4.out hO4.2.2 (by decide) b (.bool true))
         have HB5 := Lib.hid (HB4.out.setCell (p := ⟨bd, b, none⟩) HBd.out (.bool true))
         have HD5 := Lib.hid (HDn.out.put b hlb)
         have hs5 : N0 ≤ (w4.setCell ⟨bd, b, none⟩ (.bool true)).heap.size := by rw [World.size_setCell]; exact hs4
         have HS5 := Lib.hid hs5
         clear hown4 hg4 hnil4 hat4 hat5 hrow hO4 hNw hs4 hs5 HV2 HD HVf3 HOu3 HBy3
         go_wp2_with fail
         go_roundw
         case rel => exact ⟨b + 1, by omega, by go_num, by rw [HC2.out]; exact HV5.out, HD4.out, HVf5.out, ⟨_, by rw [HC2.out]; exact HD5.out, HO5.out⟩, HB5.out, HS5.out⟩
         case measure => simp [RowKit.intOf]; omega
      ·have hbe : b = n := by omega
       subst hbe
       have HBe2 : RowKit.Hid (BetO b N (k + 1) (P ++ [C]) J') := Lib.hid (by
        have h1 := parts_more HBet.out.1 HBet.out.2.1 hlt HNk.out C (by rw [← HC.out]; exact classO_sorted N k b) (fun y => by rw [← HC.out]; exact mem_classO N k b y) (fun x y hxy => (edgL_lt HN.out x y hxy).2)
        exact ⟨h1.1, h1.2, HDn.out.close, by rw [List.length_append]; have := HPl.out; simp; omega⟩)
       have HLi : RowKit.Hid (Lies wr (fun _ => True) (.slice pp C.length cp) C) := Lib.hid (lies_new (w := wo) (by rw [HN0.out]; exact HV.out) (fun _ _ => trivial))
       have hX : Below wr.heap.size wr (wr.alloc (.cells #[.slice pp C.length cp] 29)) := (Below.refl _ _).alloc (Nat.le_refl _) _
       have HLi2 := Lib.hid (HLi.out.later hX)
       have HOu2 := Lib.hid (HOu.out.later hX)
       have HBx2 := Lib.hid (below_next HBx.out hX)
       have hrow := HOu2.out.1
       have hpl : ps.length ≤ 500 := by have := HPl.out; omega
       clear hX
       go_wp2_with (at_builtin; refine wpList_append_own_at _ rfl _ _ 25 rfl w.heap.size 29 i2 (.slice none 0 0) 1 24 Tryd.underlying25 hk hk0 hk1 hk2 rfl (by decide) _ _ _ rfl hrow ⟨wr.heap.size, 0, none⟩ 1 1 [.slice pp C.length cp] rfl rfl (news_lit wr [.slice pp C.length cp] _ _ rfl) (by intro u hu; simp at hu; subst hu; rfl) ?_ ?_ HBx2.out.size ?_)
       ·unfold maxLen
        omega
       ·omega
       intro v' w4 hown4 hg4 hnil4 hat4
       have HO4 := Lib.hid (HOu2.out.more HLi2.out hown4 hg4 w4.heap.size hg4.size)
       have HB4 := Lib.hid (HBx2.out.grown hg4 HBx2.out.size (fun q hq => (hrow.lt q hq).1))
       clear hown4 hg4 hnil4 hat4 hrow hpl
       go_wp2_with fail
       go_roundw
       case rel => exact ⟨k + 1, by omega, by go_num, ⟨_, _, _, HBe2.out, HO4.out⟩, HB4.out⟩
       case measure => simp [RowKit.intOf]; omega
   ·have hke : k = n := by omega
    subst hke
    have HPs : RowKit.Hid (HasPs wr po P) := Lib.hid (fun i hi => by
     have hr := hout.1
     have hl := hout.2.1.1
     obtain ⟨g, cc, e⟩ := own_someP hr (by omega)
     injection e with e1 e2 e3
     subst e1
     obtain ⟨pi, ci, e4, h5⟩ := (hout.2.1.2 i hi).ints
     refine ⟨g, pi, ci, rfl, ?_, h5⟩
     rw [hr.cellAt i (by omega), ← e4]
     simp [show i < ps.length by omega])
    have HPl2 : RowKit.Hid (ps.length = P.length) := Lib.hid hout.2.1.1
    have HPk := Lib.hid hbet.1
    clear hout hbet hbw
    go_wp2_with fail
    go_ret
    exact ⟨po, co, P, by rw [HPl2.out] <;> rfl, HPk.out, HPs.out, HBw.out⟩
end Go.Proofs.YtldcbapjiflblaaDoor
