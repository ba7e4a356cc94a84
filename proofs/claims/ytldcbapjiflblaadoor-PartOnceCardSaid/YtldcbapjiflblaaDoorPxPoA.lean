/-
  Layer 20 (part): part.Of walked: a graph's parts. No conditions but that math/bits's table is as its initialiser lays it.
-/
import Derived.Test.YtldcbapjiflblaaDoorPxFiF
import Derived.Test.YtldcbapjiflblaaDoorPxPoS
namespace Go.Proofs.YtldcbapjiflblaaDoor
open Go.RowKit Go.Lib
theorem made_num (n : Nat) : madeCells #[.int .i64 0] n = (vnats (NumL n fun _ => 0)).toArray := by
 apply Array.ext
 ·simp [madeCells, vnats, NumL]
 ·intro i h1 h2
  simp [madeCells, vnats, NumL, Nat.mod_one]
theorem made_isL (n : Nat) : madeCells #[.bool false] n = (IsL n []).toArray := by
 apply Array.ext
 ·simp [madeCells, IsL]
 ·intro i h1 h2
  simp [madeCells, IsL, Nat.mod_one]
theorem info_boolQ : (Tryd.prog.info? 4).map (fun i => (i.zero, i.size, i.bytes)) = some (some (.bool false), 1, 1) := by kernel_rfl
theorem numL_zero (n k : Nat) (hk : k < n) (f : Nat → Nat) : (vnats (NumL n f))[k]? = some (.int .i64 (f k : Int)) := by
 rw [vnats_at _ k (by rw [numL_len]; exact hk), numL_at f hk]
theorem parts_few {n : Nat} {E : Nat → Nat → Prop} {P : List (List Nat)} (h : PartsK n E n P) : P.length ≤ n := by
 have h1 : (P.map fun L => L.headD 0).Nodup := by
  have h2 : (P.map fun L => L.headD 0).Pairwise (· < ·) := by rw [List.pairwise_map]; exact h.hd
  exact h2.imp fun {a b} hab e => by omega
 have h3 := nodup_few (m := List.range n) h1 (fun x hx => by
  obtain ⟨L, hL, rfl⟩ := List.mem_map.1 hx
  exact List.mem_range.2 (h.cl L hL _ (head_mem L (h.ne L hL))).1)
 rwa [List.length_map, List.length_range] at h3
def OfR (B f gb bn bl bi n : Nat) (T : List (List Nat)) (k : Nat) (w : World) : Prop := ∃ s, FinW w B f gb bn bl bi n T s ∧ InvP n (adjP T) s ∧ BndP n s ∧ s.stack = [] ∧ ∀ x, x < k → s.num x ≠ 0
set_option maxRecDepth 100000 in
set_option maxHeartbeats 4000000 in
theorem pof_ok (n : Nat) (hn : n ≤ 500) (p : Option Addr) (c : Nat) (N : List EdgM) (hN : ∀ e ∈ N, e.1 < n ∧ e.2 < n) (w : World) (h : HasE w p (intsE N)) (hl : N.length ≤ 900) (hT : TabAt 0 Lib.deBruijn64tab w) (hTg : 0 < w.heap.size) :
  Calls Tryd.prog 8 #[.int .i64 (n : Nat), .slice p N.length c] w fun e w' => ∃ p' c' P, e = .returned (.tuple #[.slice p' P.length c', .int .i64 0]) ∧ PartsK n (EdgL N) n P ∧ HasPs w' p' P ∧ Below w.heap.size w w' := by
 have hok : okE n (intsE N) = true := by
  unfold okE intsE
  rw [List.all_eq_true]
  intro x hx
  obtain ⟨e, he, rfl⟩ := List.mem_map.1 hx
  have := hN e he
  unfold okG
  simp
  omega
 have ho := gof_any n hn p c (intsE N) w h (by rw [intsE_len]; exact hl)
 rw [intsE_len] at ho
 have HO := Lib.hid ho
 have HOk := Lib.hid hok
 have HTb := Lib.hid (show TabK w.heap.size w from ⟨hT, hTg⟩)
 have HN := Lib.hid hN
 obtain ⟨i0, hi, hz0, hz1, hz2⟩ := info_parts info_boolQ
 obtain ⟨i1, hj, hj0, hj1, hj2⟩ := info_parts info_nat
 have mkI : ∀ W : World, (Instr.makeSlice 29 (.int .i64 (n : Int)) (.int .i64 (n : Int))).run Tryd.prog W = .ok (.slice (some ⟨W.heap.size, 0, none⟩) n n) (W.alloc (.cells (vnats (NumL n fun _ => 0)).toArray 3)) := fun W => by
  have hr := run_make (P := Tryd.prog) W 29 3 i1 (.int .i64 0) Tryd.underlying29 hj hj0 .i64 .i64 n n (by omega) (Int.le_refl _) (by rw [hj2]; omega) (by omega)
  rw [hj1] at hr
  rw [← made_num]
  simp only [Int.toNat_natCast, Nat.mul_one] at hr
  exact hr
 have mkB : ∀ W : World, (Instr.makeSlice 44 (.int .i64 (n : Int)) (.int .i64 (n : Int))).run Tryd.prog W = .ok (.slice (some ⟨W.heap.size, 0, none⟩) n n) (W.alloc (.cells (IsL n []).toArray 4)) := fun W => by
  have hr := run_make (P := Tryd.prog) W 44 4 i0 (.bool false) Tryd.underlying44 hi hz0 .i64 .i64 n n (by omega) (Int.le_refl _) (by rw [hz2]; omega) (by omega)
  rw [hz1] at hr
  rw [← made_isL]
  simp only [Int.toNat_natCast, Nat.mul_one] at hr
  exact hr
 clear h hok ho hT hTg hN hi hz0 hz1 hz2 hj hj0 hj1 hj2
 go_enter Tryd.func8, Tryd.ntmps8
 go_wp2_with fail
 refine HO.out.mono ?_
 rintro e W1 ⟨h1, -, hb1⟩
 obtain ⟨rfl, tb, fb, T, F, m, htl, hgr, hsp⟩ := h1 HOk.out
 have HB1 := Lib.hid hb1
 have HL1 := Lib.hid htl
 obtain ⟨gb, hgb⟩ : ∃ q, w.heap.size = q := ⟨_, rfl⟩
 have hgr' : GrW W1 w.heap.size gb tb fb T F m := by rw [← hgb]; exact hgr
 have HGr := Lib.hid hgr'
 have HSp := Lib.hid hsp
 clear hgr hgr' htl hsp hb1 HO
 go_upto_region 4 with fail
 try simp only [hgb]
 clear hgb
 go_cut [8] (fun s8 wx => ∃ f bn bl bi, s8 = .pointer (some ⟨f, 0, none⟩) ∧ FinW wx w.heap.size f gb bn bl bi n T startP ∧ Below w.heap.size w wx)
 case first =>
  have HS : RowKit.Hid (∀ w', Below W1.heap.size W1 w' → Below W1.heap.size W1 w') := Lib.hid (fun _ h => h)
  refine wpk HS [] (by kernel_rfl) fun hB0 _ => ?_
  obtain ⟨wd, hwd⟩ : ∃ q, (W1).drew = q := ⟨_, rfl⟩
  rw [hwd] at hB0 ⊢
  clear hwd
  refine wfr 0 (v := ?_) rfl ?_ ?_
  rotate_left
  ·intro w' hw';go_simp;try with_reducible rfl
  try simp only [Act.put, sq]
  refine wfr 1 (v := ?_) rfl ?_ ?_
  rotate_left
  ·intro w' hw';go_simp;try with_reducible rfl
  try simp only [Act.put, sq]
  refine wfr 3 (v := ?_) rfl ?_ ?_
  rotate_left
  ·intro w' hw';go_simp;try with_reducible rfl
  try simp only [Act.put, sq]
  refine wfr 5 (v := ?_) rfl ?_ ?_
  rotate_left
  ·intro w' hw';go_simp;try with_reducible rfl
  try simp only [Act.put, sq]
  refine wpAnyM_three 2 4 6 rfl rfl rfl (by kernel_rfl) (fun K hK => ?_) (fun K hK => ?_) (fun K hK => ?_)
  ·go_simp
   have hA1 := hB0.alloc hB0.size (.cells (vnats (NumL n fun _ => 0)).toArray 3)
   have HN := Lib.hid (Blk.new wd 3 (vnats (NumL n fun _ => 0)))
   refine hK.out _ _ (fun _ _ => HS.out _ hA1) ?_
   clear hK K
   try simp only [Act.put, sq]
   obtain ⟨wa1, hwa1⟩ : ∃ q, wd.alloc (.cells (vnats (NumL n fun _ => 0)).toArray 3) = q := ⟨_, rfl⟩
   obtain ⟨bn, hgb1⟩ : ∃ q, wd.heap.size = q := ⟨_, rfl⟩
   have hlbn : W1.heap.size ≤ bn := by rw [← hgb1]; exact hB0.size
   simp only [hwa1, hgb1] at hA1 HN ⊢
   clear hwa1 hgb1
   refine wpAnyM_two 4 6 rfl rfl (by kernel_rfl) (fun K hK => ?_) (fun K hK => ?_)
   ·go_simp
    have hA2 := hA1.alloc hA1.size (.cells (vnats (NumL n fun _ => 0)).toArray 3)
    have HL := Lib.hid (Blk.new wa1 3 (vnats (NumL n fun _ => 0)))
    have hltHN2 := HN.out.lt
    replace HN := Lib.hid (HN.out.alloc (.cells (vnats (NumL n fun _ => 0)).toArray 3))
    refine hK.out _ _ (fun _ _ => HS.out _ hA2) ?_
    clear hK K
    try simp only [Act.put, sq]
    obtain ⟨wa2, hwa2⟩ : ∃ q, wa1.alloc (.cells (vnats (NumL n fun _ => 0)).toArray 3) = q := ⟨_, rfl⟩
    obtain ⟨bl, hgb2⟩ : ∃ q, wa1.heap.size = q := ⟨_, rfl⟩
    have hlbl : W1.heap.size ≤ bl := by rw [← hgb2]; exact hA1.size
    simp only [hwa2, hgb2] at hA2 HL HN hltHN2 ⊢
    clear hwa2 hgb2
    have hne : bn ≠ bl := by omega
    refine won 6 rfl fun K hK => ?_
    go_simp
    have hA3 := hA2.alloc hA2.size (.cells (IsL n []).toArray 4)
    have HI := Lib.hid (Blk.new wa2 4 (IsL n []))
    have hltHN3 := HN.out.lt
    replace HN := Lib.hid (HN.out.alloc (.cells (IsL n []).toArray 4))
    have hltHL3 := HL.out.lt
    replace HL := Lib.hid (HL.out.alloc (.cells (IsL n []).toArray 4))
    refine hK.out _ _ (fun _ _ => HS.out _ hA3) ?_
    clear hK K
    try simp only [Act.put, sq]
    obtain ⟨wa3, hwa3⟩ : ∃ q, wa2.alloc (.cells (IsL n []).toArray 4) = q := ⟨_, rfl⟩
    obtain ⟨bi, hgb3⟩ : ∃ q, wa2.heap.size = q := ⟨_, rfl⟩
    have hlbi : W1.heap.size ≤ bi := by rw [← hgb3]; exact hA2.size
    simp only [hwa3, hgb3] at hA3 HI HN HL hltHN3 hltHL3 ⊢
    clear hwa3 hgb3
    refine won 7 rfl fun K hK => ?_
    go_simp
    refine hK.out _ _ (fun _ h => h) ?_
    clear hK K
    try simp only [Act.put, sq]
    refine won 8 rfl fun K hK => ?_
    go_simp
    have hA4 := hA3.alloc hA3.size (.cells #[.pointer (some ⟨gb, 0, none⟩), .slice (some ⟨bn, 0, none⟩) n n, .slice (some ⟨bl, 0, none⟩) n n, .int .i64 0, .slice none 0 0, .slice (some ⟨bi, 0, none⟩) n n, .slice none 0 0, .slice none 0 0] 47)
    have HF := Lib.hid (Blk.new wa3 47 ([.pointer (some ⟨gb, 0, none⟩), .slice (some ⟨bn, 0, none⟩) n n, .slice (some ⟨bl, 0, none⟩) n n, .int .i64 0, .slice none 0 0, .slice (some ⟨bi, 0, none⟩) n n, .slice none 0 0, .slice none 0 0]))
    have hltHN4 := HN.out.lt
    replace HN := Lib.hid (HN.out.alloc (.cells #[.pointer (some ⟨gb, 0, none⟩), .slice (some ⟨bn, 0, none⟩) n n, .slice (some ⟨bl, 0, none⟩) n n, .int .i64 0, .slice none 0 0, .slice (some ⟨bi, 0, none⟩) n n, .slice none 0 0, .slice none 0 0] 47))
    have hltHL4 := HL.out.lt
    replace HL := Lib.hid (HL.out.alloc (.cells #[.pointer (some ⟨gb, 0, none⟩), .slice (some ⟨bn, 0, none⟩) n n, .slice (some ⟨bl, 0, none⟩) n n, .int .i64 0, .slice none 0 0, .slice (some ⟨bi, 0, none⟩) n n, .slice none 0 0, .slice none 0 0] 47))
    have hltHI4 := HI.out.lt
    replace HI := Lib.hid (HI.out.alloc (.cells #[.pointer (some ⟨gb, 0, none⟩), .slice (some ⟨bn, 0, none⟩) n n, .slice (some ⟨bl, 0, none⟩) n n, .int .i64 0, .slice none 0 0, .slice (some ⟨bi, 0, none⟩) n n, .slice none 0 0, .slice none 0 0] 47))
    refine hK.out _ _ (fun _ _ => HS.out _ hA4) ?_
    clear hK K
    try simp only [Act.put, sq]
    obtain ⟨wa4, hwa4⟩ : ∃ q, wa3.alloc (.cells #[.pointer (some ⟨gb, 0, none⟩), .slice (some ⟨bn, 0, none⟩) n n, .slice (some ⟨bl, 0, none⟩) n n, .int .i64 0, .slice none 0 0, .slice (some ⟨bi, 0, none⟩) n n, .slice none 0 0, .slice none 0 0] 47) = q := ⟨_, rfl⟩
    obtain ⟨f, hgb4⟩ : ∃ q, wa3.heap.size = q := ⟨_, rfl⟩
    have hlf : W1.heap.size ≤ f := by rw [← hgb4]; exact hA3.size
    simp only [hwa4, hgb4] at hA4 HF HN HL HI hltHN4 hltHL4 hltHI4 ⊢
    clear hwa4 hgb4
    refine won 9 rfl fun K hK => ?_
    go_simp
    refine hK.out _ _ (fun _ h => h) ?_
    clear hK K
    try simp only [Act.put, sq]
    refine wpAnyM_done (by kernel_rfl) ?_ _
    try simp only [Act.put, sq]
    have HB9 := Lib.hid hA4
    have HGr9 := Lib.hid (HGr.out.later hA4)
    clear hA4
    go_wp2_with fail
    go_meet
    exact ⟨f, bn, bl, bi, rfl, ⟨_, _, _, [], [], HF.out, HN.out, HL.out, HI.out, World.ownsRow_nil _ _ _ _, World.ownsRow_nil _ _ _ _, World.ownsRow_nil _ _ _ _, rfl, ⟨rfl, fun i hi => absurd hi (Nat.not_lt_zero i)⟩, ⟨rfl, fun i hi => absurd hi (Nat.not_lt_zero i)⟩, ⟨hne, by simp [Value.ownBlock], by simp [Value.ownBlock]⟩, ⟨tb, fb, F, m, HL1.out, HGr9.out⟩, by have := HB1.out.size; omega⟩, below_next HB1.out HB9.out⟩
   ·go_simp
    have hA2 := hA1.alloc hA1.size (.cells (IsL n []).toArray 4)
    have HI := Lib.hid (Blk.new wa1 4 (IsL n []))
    have hltHN2 := HN.out.lt
    replace HN := Lib.hid (HN.out.alloc (.cells (IsL n []).toArray 4))
    refine hK.out _ _ (fun _ _ => HS.out _ hA2) ?_
    clear hK K
    try simp only [Act.put, sq]
    obtain ⟨wa2, hwa2⟩ : ∃ q, wa1.alloc (.cells (IsL n []).toArray 4) = q := ⟨_, rfl⟩
    obtain ⟨bi, hgb2⟩ : ∃ q, wa1.heap.size = q := ⟨_, rfl⟩
    have hlbi : W1.heap.size ≤ bi := by rw [← hgb2]; exact hA1.size
    simp only [hwa2, hgb2] at hA2 HI HN hltHN2 ⊢
    clear hwa2 hgb2
    refine won 4 rfl fun K hK => ?_
    go_simp
    have hA3 := hA2.alloc hA2.size (.cells (vnats (NumL n fun _ => 0)).toArray 3)
    have HL := Lib.hid (Blk.new wa2 3 (vnats (NumL n fun _ => 0)))
    have hltHN3 := HN.out.lt
    replace HN := Lib.hid (HN.out.alloc (.cells (vnats (NumL n fun _ => 0)).toArray 3))
    have hltHI3 := HI.out.lt
    replace HI := Lib.hid (HI.out.alloc (.cells (vnats (NumL n fun _ => 0)).toArray 3))
    refine hK.out _ _ (fun _ _ => HS.out _ hA3) ?_
    clear hK K
    try simp only [Act.put, sq]
    obtain ⟨wa3, hwa3⟩ : ∃ q, wa2.alloc (.cells (vnats (NumL n fun _ => 0)).toArray 3) = q := ⟨_, rfl⟩
    obtain ⟨bl, hgb3⟩ : ∃ q, wa2.heap.size = q := ⟨_, rfl⟩
    have hlbl : W1.heap.size ≤ bl := by rw [← hgb3]; exact hA2.size
    simp only [hwa3, hgb3] at hA3 HL HN HI hltHN3 hltHI3 ⊢
    clear hwa3 hgb3
    have hne : bn ≠ bl := by omega
    refine won 7 rfl fun K hK => ?_
    go_simp
    refine hK.out _ _ (fun _ h => h) ?_
    clear hK K
    try simp only [Act.put, sq]
    refine won 8 rfl fun K hK => ?_
    go_simp
    have hA4 := hA3.alloc hA3.size (.cells #[.pointer (some ⟨gb, 0, none⟩), .slice (some ⟨bn, 0, none⟩) n n, .slice (some ⟨bl, 0, none⟩) n n, .int .i64 0, .slice none 0 0, .slice (some ⟨bi, 0, none⟩) n n, .slice none 0 0, .slice none 0 0] 47)
    have HF := Lib.hid (Blk.new wa3 47 ([.pointer (some ⟨gb, 0, none⟩), .slice (some ⟨bn, 0, none⟩) n n, .slice (some ⟨bl, 0, none⟩) n n, .int .i64 0, .slice none 0 0, .slice (some ⟨bi, 0, none⟩) n n, .slice none 0 0, .slice none 0 0]))
    have hltHN4 := HN.out.lt
    replace HN := Lib.hid (HN.out.alloc (.cells #[.pointer (some ⟨gb, 0, none⟩), .slice (some ⟨bn, 0, none⟩) n n, .slice (some ⟨bl, 0, none⟩) n n, .int .i64 0, .slice none 0 0, .slice (some ⟨bi, 0, none⟩) n n, .slice none 0 0, .slice none 0 0] 47))
    have hltHI4 := HI.out.lt
    replace HI := Lib.hid (HI.out.alloc (.cells #[.pointer (some ⟨gb, 0, none⟩), .slice (some ⟨bn, 0, none⟩) n n, .slice (some ⟨bl, 0, none⟩) n n, .int .i64 0, .slice none 0 0, .slice (some ⟨bi, 0, none⟩) n n, .slice none 0 0, .slice none 0 0] 47))
    have hltHL4 := HL.out.lt
    replace HL := Lib.hid (HL.out.alloc (.cells #[.pointer (some ⟨gb, 0, none⟩), .slice (some ⟨bn, 0, none⟩) n n, .slice (some ⟨bl, 0, none⟩) n n, .int .i64 0, .slice none 0 0, .slice (some ⟨bi, 0, none⟩) n n, .slice none 0 0, .slice none 0 0] 47))
    refine hK.out _ _ (fun _ _ => HS.out _ hA4) ?_
    clear hK K
    try simp only [Act.put, sq]
    obtain ⟨wa4, hwa4⟩ : ∃ q, wa3.alloc (.cells #[.pointer (some ⟨gb, 0, none⟩), .slice (some ⟨bn, 0, none⟩) n n, .slice (some ⟨bl, 0, none⟩) n n, .int .i64 0, .slice none 0 0, .slice (some ⟨bi, 0, none⟩) n n, .slice none 0 0, .slice none 0 0] 47) = q := ⟨_, rfl⟩
    obtain ⟨f, hgb4⟩ : ∃ q, wa3.heap.size = q := ⟨_, rfl⟩
    have hlf : W1.heap.size ≤ f := by rw [← hgb4]; exact hA3.size
    simp only [hwa4, hgb4] at hA4 HF HN HI HL hltHN4 hltHI4 hltHL4 ⊢
    clear hwa4 hgb4
    refine won 9 rfl fun K hK => ?_
    go_simp
    refine hK.out _ _ (fun _ h => h) ?_
    clear hK K
    try simp only [Act.put, sq]
    refine wpAnyM_done (by kernel_rfl) ?_ _
    try simp only [Act.put, sq]
    have HB9 := Lib.hid hA4
    have HGr9 := Lib.hid (HGr.out.later hA4)
    clear hA4
    go_wp2_with fail
    go_meet
    exact ⟨f, bn, bl, bi, rfl, ⟨_, _, _, [], [], HF.out, HN.out, HL.out, HI.out, World.ownsRow_nil _ _ _ _, World.ownsRow_nil _ _ _ _, World.ownsRow_nil _ _ _ _, rfl, ⟨rfl, fun i hi => absurd hi (Nat.not_lt_zero i)⟩, ⟨rfl, fun i hi => absurd hi (Nat.not_lt_zero i)⟩, ⟨hne, by simp [Value.ownBlock], by simp [Value.ownBlock]⟩, ⟨tb, fb, F, m, HL1.out, HGr9.out⟩, by have := HB1.out.size; omega⟩, below_next HB1.out HB9.out⟩
  ·go_simp
   have hA1 := hB0.alloc hB0.size (.cells (vnats (NumL n fun _ => 0)).toArray 3)
   have HL := Lib.hid (Blk.new wd 3 (vnats (NumL n fun _ => 0)))
   refine hK.out _ _ (fun _ _ => HS.out _ hA1) ?_
   clear hK K
   try simp only [Act.put, sq]
   obtain ⟨wa1, hwa1⟩ : ∃ q, wd.alloc (.cells (vnats (NumL n fun _ => 0)).toArray 3) = q := ⟨_, rfl⟩
   obtain ⟨bl, hgb1⟩ : ∃ q, wd.heap.size = q := ⟨_, rfl⟩
   have hlbl : W1.heap.size ≤ bl := by rw [← hgb1]; exact hB0.size
   simp only [hwa1, hgb1] at hA1 HL ⊢
   clear hwa1 hgb1
   refine wpAnyM_two 2 6 rfl rfl (by kernel_rfl) (fun K hK => ?_) (fun K hK => ?_)
   ·go_simp
    have hA2 := hA1.alloc hA1.size (.cells (vnats (NumL n fun _ => 0)).toArray 3)
    have HN := Lib.hid (Blk.new wa1 3 (vnats (NumL n fun _ => 0)))
    have hltHL2 := HL.out.lt
    replace HL := Lib.hid (HL.out.alloc (.cells (vnats (NumL n fun _ => 0)).toArray 3))
    refine hK.out _ _ (fun _ _ => HS.out _ hA2) ?_
    clear hK K
    try simp only [Act.put, sq]
    obtain ⟨wa2, hwa2⟩ : ∃ q, wa1.alloc (.cells (vnats (NumL n fun _ => 0)).toArray 3) = q := ⟨_, rfl⟩
    obtain ⟨bn, hgb2⟩ : ∃ q, wa1.heap.size = q := ⟨_, rfl⟩
    have hlbn : W1.heap.size ≤ bn := by rw [← hgb2]; exact hA1.size
    simp only [hwa2, hgb2] at hA2 HN HL hltHL2 ⊢
    clear hwa2 hgb2
    have hne : bn ≠ bl := by omega
    refine won 6 rfl fun K hK => ?_
    go_simp
    have hA3 := hA2.alloc hA2.size (.cells (IsL n []).toArray 4)
    have HI := Lib.hid (Blk.new wa2 4 (IsL n []))
    have hltHL3 := HL.out.lt
    replace HL := Lib.hid (HL.out.alloc (.cells (IsL n []).toArray 4))
    have hltHN3 := HN.out.lt
    replace HN := Lib.hid (HN.out.alloc (.cells (IsL n []).toArray 4))
    refine hK.out _ _ (fun _ _ => HS.out _ hA3) ?_
    clear hK K
    try simp only [Act.put, sq]
    obtain ⟨wa3, hwa3⟩ : ∃ q, wa2.alloc (.cells (IsL n []).toArray 4) = q := ⟨_, rfl⟩
    obtain ⟨bi, hgb3⟩ : ∃ q, wa2.heap.size = q := ⟨_, rfl⟩
    have hlbi : W1.heap.size ≤ bi := by rw [← hgb3]; exact hA2.size
    simp only [hwa3, hgb3] at hA3 HI HL HN hltHL3 hltHN3 ⊢
    clear hwa3 hgb3
    refine won 7 rfl fun K hK => ?_
    go_simp
    refine hK.out _ _ (fun _ h => h) ?_
    clear hK K
    try simp only [Act.put, sq]
    refine won 8 rfl fun K hK => ?_
    go_simp
    have hA4 := hA3.alloc hA3.size (.cells #[.pointer (some ⟨gb, 0, none⟩), .slice (some ⟨bn, 0, none⟩) n n, .slice (some ⟨bl, 0, none⟩) n n, .int .i64 0, .slice none 0 0, .slice (some ⟨bi, 0, none⟩) n n, .slice none 0 0, .slice none 0 0] 47)
    have HF := Lib.hid (Blk.new wa3 47 ([.pointer (some ⟨gb, 0, none⟩), .slice (some ⟨bn, 0, none⟩) n n, .slice (some ⟨bl, 0, none⟩) n n, .int .i64 0, .slice none 0 0, .slice (some ⟨bi, 0, none⟩) n n, .slice none 0 0, .slice none 0 0]))
    have hltHL4 := HL.out.lt
    replace HL := Lib.hid (HL.out.alloc (.cells #[.pointer (some ⟨gb, 0, none⟩), .slice (some ⟨bn, 0, none⟩) n n, .slice (some ⟨bl, 0, none⟩) n n, .int .i64 0, .slice none 0 0, .slice (some ⟨bi, 0, none⟩) n n, .slice none 0 0, .slice none 0 0] 47))
    have hltHN4 := HN.out.lt
    replace HN := Lib.hid (HN.out.alloc (.cells #[.pointer (some ⟨gb, 0, none⟩), .slice (some ⟨bn, 0, none⟩) n n, .slice (some ⟨bl, 0, none⟩) n n, .int .i64 0, .slice none 0 0, .slice (some ⟨bi, 0, none⟩) n n, .slice none 0 0, .slice none 0 0] 47))
    have hltHI4 := HI.out.lt
    replace HI := Lib.hid (HI.out.alloc (.cells #[.pointer (some ⟨gb, 0, none⟩), .slice (some ⟨bn, 0, none⟩) n n, .slice (some ⟨bl, 0, none⟩) n n, .int .i64 0, .slice none 0 0, .slice (some ⟨bi, 0, none⟩) n n, .slice none 0 0, .slice none 0 0] 47))
    refine hK.out _ _ (fun _ _ => HS.out _ hA4) ?_
    clear hK K
    try simp only [Act.put, sq]
    obtain ⟨wa4, hwa4⟩ : ∃ q, wa3.alloc (.cells #[.pointer (some ⟨gb, 0, none⟩), .slice (some ⟨bn, 0, none⟩) n n, .slice (some ⟨bl, 0, none⟩) n n, .int .i64 0, .slice none 0 0, .slice (some ⟨bi, 0, none⟩) n n, .slice none 0 0, .slice none 0 0] 47) = q := ⟨_, rfl⟩
    obtain ⟨f, hgb4⟩ : ∃ q, wa3.heap.size = q := ⟨_, rfl⟩
    have hlf : W1.heap.size ≤ f := by rw [← hgb4]; exact hA3.size
    simp only [hwa4, hgb4] at hA4 HF HL HN HI hltHL4 hltHN4 hltHI4 ⊢
    clear hwa4 hgb4
    refine won 9 rfl fun K hK => ?_
    go_simp
    refine hK.out _ _ (fun _ h => h) ?_
    clear hK K
    try simp only [Act.put, sq]
    refine wpAnyM_done (by kernel_rfl) ?_ _
    try simp only [Act.put, sq]
    have HB9 := Lib.hid hA4
    have HGr9 := Lib.hid (HGr.out.later hA4)
    clear hA4
    go_wp2_with fail
    go_meet
    exact ⟨f, bn, bl, bi, rfl, ⟨_, _, _, [], [], HF.out, HN.out, HL.out, HI.out, World.ownsRow_nil _ _ _ _, World.ownsRow_nil _ _ _ _, World.ownsRow_nil _ _ _ _, rfl, ⟨rfl, fun i hi => absurd hi (Nat.not_lt_zero i)⟩, ⟨rfl, fun i hi => absurd hi (Nat.not_lt_zero i)⟩, ⟨hne, by simp [Value.ownBlock], by simp [Value.ownBlock]⟩, ⟨tb, fb, F, m, HL1.out, HGr9.out⟩, by have := HB1.out.size; omega⟩, below_next HB1.out HB9.out⟩
   ·go_simp
    have hA2 := hA1.alloc hA1.size (.cells (IsL n []).toArray 4)
    have HI := Lib.hid (Blk.new wa1 4 (IsL n []))
    have hltHL2 := HL.out.lt
    replace HL := Lib.hid (HL.out.alloc (.cells (IsL n []).toArray 4))
    refine hK.out _ _ (fun _ _ => HS.out _ hA2) ?_
    clear hK K
    try simp only [Act.put, sq]
    obtain ⟨wa2, hwa2⟩ : ∃ q, wa1.alloc (.cells (IsL n []).toArray 4) = q := ⟨_, rfl⟩
    obtain ⟨bi, hgb2⟩ : ∃ q, wa1.heap.size = q := ⟨_, rfl⟩
    have hlbi : W1.heap.size ≤ bi := by rw [← hgb2]; exact hA1.size
    simp only [hwa2, hgb2] at hA2 HI HL hltHL2 ⊢
    clear hwa2 hgb2
    refine won 2 rfl fun K hK => ?_
    go_simp
    have hA3 := hA2.alloc hA2.size (.cells (vnats (NumL n fun _ => 0)).toArray 3)
    have HN := Lib.hid (Blk.new wa2 3 (vnats (NumL n fun _ => 0)))
    have hltHL3 := HL.out.lt
    replace HL := Lib.hid (HL.out.alloc (.cells (vnats (NumL n fun _ => 0)).toArray 3))
    have hltHI3 := HI.out.lt
    replace HI := Lib.hid (HI.out.alloc (.cells (vnats (NumL n fun _ => 0)).toArray 3))
    refine hK.out _ _ (fun _ _ => HS.out _ hA3) ?_
    clear hK K
    try simp only [Act.put, sq]
    obtain ⟨wa3, hwa3⟩ : ∃ q, wa2.alloc (.cells (vnats (NumL n fun _ => 0)).toArray 3) = q := ⟨_, rfl⟩
    obtain ⟨bn, hgb3⟩ : ∃ q, wa2.heap.size = q := ⟨_, rfl⟩
    have hlbn : W1.heap.size ≤ bn := by rw [← hgb3]; exact hA2.size
    simp only [hwa3, hgb3] at hA3 HN HL HI hltHL3 hltHI3 ⊢
    clear hwa3 hgb3
    have hne : bn ≠ bl := by omega
    refine won 7 rfl fun K hK => ?_
    go_simp
    refine hK.out _ _ (fun _ h => h) ?_
    clear hK K
    try simp only [Act.put, sq]
    refine won 8 rfl fun K hK => ?_
    go_simp
    have hA4 := hA3.alloc hA3.size (.cells #[.pointer (some ⟨gb, 0, none⟩), .slice (some ⟨bn, 0, none⟩) n n, .slice (some ⟨bl, 0, none⟩) n n, .int .i64 0, .slice none 0 0, .slice (some ⟨bi, 0, none⟩) n n, .slice none 0 0, .slice none 0 0] 47)
    have HF := Lib.hid (Blk.new wa3 47 ([.pointer (some ⟨gb, 0, none⟩), .slice (some ⟨bn, 0, none⟩) n n, .slice (some ⟨bl, 0, none⟩) n n, .int .i64 0, .slice none 0 0, .slice (some ⟨bi, 0, none⟩) n n, .slice none 0 0, .slice none 0 0]))
    have hltHL4 := HL.out.lt
    replace HL := Lib.hid (HL.out.alloc (.cells #[.pointer (some ⟨gb, 0, none⟩), .slice (some ⟨bn, 0, none⟩) n n, .slice (some ⟨bl, 0, none⟩) n n, .int .i64 0, .slice none 0 0, .slice (some ⟨bi, 0, none⟩) n n, .slice none 0 0, .slice none 0 0] 47))
    have hltHI4 := HI.out.lt
    replace HI := Lib.hid (HI.out.alloc (.cells #[.pointer (some ⟨gb, 0, none⟩), .slice (some ⟨bn, 0, none⟩) n n, .slice (some ⟨bl, 0, none⟩) n n, .int .i64 0, .slice none 0 0, .slice (some ⟨bi, 0, none⟩) n n, .slice none 0 0, .slice none 0 0] 47))
    have hltHN4 := HN.out.lt
    replace HN := Lib.hid (HN.out.alloc (.cells #[.pointer (some ⟨gb, 0, none⟩), .slice (some ⟨bn, 0, none⟩) n n, .slice (some ⟨bl, 0, none⟩) n n, .int .i64 0, .slice none 0 0, .slice (some ⟨bi, 0, none⟩) n n, .slice none 0 0, .slice none 0 0] 47))
    refine hK.out _ _ (fun _ _ => HS.out _ hA4) ?_
    clear hK K
    try simp only [Act.put, sq]
    obtain ⟨wa4, hwa4⟩ : ∃ q, wa3.alloc (.cells #[.pointer (some ⟨gb, 0, none⟩), .slice (some ⟨bn, 0, none⟩) n n, .slice (some ⟨bl, 0, none⟩) n n, .int .i64 0, .slice none 0 0, .slice (some ⟨bi, 0, none⟩) n n, .slice none 0 0, .slice none 0 0] 47) = q := ⟨_, rfl⟩
    obtain ⟨f, hgb4⟩ : ∃ q, wa3.heap.size = q := ⟨_, rfl⟩
    have hlf : W1.heap.size ≤ f := by rw [← hgb4]; exact hA3.size
    simp only [hwa4, hgb4] at hA4 HF HL HI HN hltHL4 hltHI4 hltHN4 ⊢
    clear hwa4 hgb4
    refine won 9 rfl fun K hK => ?_
    go_simp
    refine hK.out _ _ (fun _ h => h) ?_
    clear hK K
    try simp only [Act.put, sq]
    refine wpAnyM_done (by kernel_rfl) ?_ _
    try simp only [Act.put, sq]
    have HB9 := Lib.hid hA4
    have HGr9 := Lib.hid (HGr.out.later hA4)
    clear hA4
    go_wp2_with fail
    go_meet
    exact ⟨f, bn, bl, bi, rfl, ⟨_, _, _, [], [], HF.out, HN.out, HL.out, HI.out, World.ownsRow_nil _ _ _ _, World.ownsRow_nil _ _ _ _, World.ownsRow_nil _ _ _ _, rfl, ⟨rfl, fun i hi => absurd hi (Nat.not_lt_zero i)⟩, ⟨rfl, fun i hi => absurd hi (Nat.not_lt_zero i)⟩, ⟨hne, by simp [Value.ownBlock], by simp [Value.ownBlock]⟩, ⟨tb, fb, F, m, HL1.out, HGr9.out⟩, by have := HB1.out.size; omega⟩, below_next HB1.out HB9.out⟩
  ·go_simp
   have hA1 := hB0.alloc hB0.size (.cells (IsL n []).toArray 4)
   have HI := Lib.hid (Blk.new wd 4 (IsL n []))
   refine hK.out _ _ (fun _ _ => HS.out _ hA1) ?_
   clear hK K
   try simp only [Act.put, sq]
   obtain ⟨wa1, hwa1⟩ : ∃ q, wd.alloc (.cells (IsL n []).toArray 4) = q := ⟨_, rfl⟩
   obtain ⟨bi, hgb1⟩ : ∃ q, wd.heap.size = q := ⟨_, rfl⟩
   have hlbi : W1.heap.size ≤ bi := by rw [← hgb1]; exact hB0.size
   simp only [hwa1, hgb1] at hA1 HI ⊢
   clear hwa1 hgb1
   refine wpAnyM_two 2 4 rfl rfl (by kernel_rfl) (fun K hK => ?_) (fun K hK => ?_)
   ·go_simp
    have hA2 := hA1.alloc hA1.size (.cells (vnats (NumL n fun _ => 0)).toArray 3)
    have HN := Lib.hid (Blk.new wa1 3 (vnats (NumL n fun _ => 0)))
    have hltHI2 := HI.out.lt
    replace HI := Lib.hid (HI.out.alloc (.cells (vnats (NumL n fun _ => 0)).toArray 3))
    refine hK.out _ _ (fun _ _ => HS.out _ hA2) ?_
    clear hK K
    try simp only [Act.put, sq]
    obtain ⟨wa2, hwa2⟩ : ∃ q, wa1.alloc (.cells (vnats (NumL n fun _ => 0)).toArray 3) = q := ⟨_, rfl⟩
    obtain ⟨bn, hgb2⟩ : ∃ q, wa1.heap.size = q := ⟨_, rfl⟩
    have hlbn : W1.heap.size ≤ bn := by rw [← hgb2]; exact hA1.size
    simp only [hwa2, hgb2] at hA2 HN HI hltHI2 ⊢
    clear hwa2 hgb2
    refine won 4 rfl fun K hK => ?_
    go_simp
    have hA3 := hA2.alloc hA2.size (.cells (vnats (NumL n fun _ => 0)).toArray 3)
    have HL := Lib.hid (Blk.new wa2 3 (vnats (NumL n fun _ => 0)))
    have hltHI3 := HI.out.lt
    replace HI := Lib.hid (HI.out.alloc (.cells (vnats (NumL n fun _ => 0)).toArray 3))
    have hltHN3 := HN.out.lt
    replace HN := Lib.hid (HN.out.alloc (.cells (vnats (NumL n fun _ => 0)).toArray 3))
    refine hK.out _ _ (fun _ _ => HS.out _ hA3) ?_
    clear hK K
    try simp only [Act.put, sq]
    obtain ⟨wa3, hwa3⟩ : ∃ q, wa2.alloc (.cells (vnats (NumL n fun _ => 0)).toArray 3) = q := ⟨_, rfl⟩
    obtain ⟨bl, hgb3⟩ : ∃ q, wa2.heap.size = q := ⟨_, rfl⟩
    have hlbl : W1.heap.size ≤ bl := by rw [← hgb3]; exact hA2.size
    simp only [hwa3, hgb3] at hA3 HL HI HN hltHI3 hltHN3 ⊢
    clear hwa3 hgb3
    have hne : bn ≠ bl := by omega
    refine won 7 rfl fun K hK => ?_
    go_simp
    refine hK.out _ _ (fun _ h => h) ?_
    clear hK K
    try simp only [Act.put, sq]
    refine won 8 rfl fun K hK => ?_
    go_simp
    have hA4 := hA3.alloc hA3.size (.cells #[.pointer (some ⟨gb, 0, none⟩), .slice (some ⟨bn, 0, none⟩) n n, .slice (some ⟨bl, 0, none⟩) n n, .int .i64 0, .slice none 0 0, .slice (some ⟨bi, 0, none⟩) n n, .slice none 0 0, .slice none 0 0] 47)
    have HF := Lib.hid (Blk.new wa3 47 ([.pointer (some ⟨gb, 0, none⟩), .slice (some ⟨bn, 0, none⟩) n n, .slice (some ⟨bl, 0, none⟩) n n, .int .i64 0, .slice none 0 0, .slice (some ⟨bi, 0, none⟩) n n, .slice none 0 0, .slice none 0 0]))
    have hltHI4 := HI.out.lt
    replace HI := Lib.hid (HI.out.alloc (.cells #[.pointer (some ⟨gb, 0, none⟩), .slice (some ⟨bn, 0, none⟩) n n, .slice (some ⟨bl, 0, none⟩) n n, .int .i64 0, .slice none 0 0, .slice (some ⟨bi, 0, none⟩) n n, .slice none 0 0, .slice none 0 0] 47))
    have hltHN4 := HN.out.lt
    replace HN := Lib.hid (HN.out.alloc (.cells #[.pointer (some ⟨gb, 0, none⟩), .slice (some ⟨bn, 0, none⟩) n n, .slice (some ⟨bl, 0, none⟩) n n, .int .i64 0, .slice none 0 0, .slice (some ⟨bi, 0, none⟩) n n, .slice none 0 0, .slice none 0 0] 47))
    have hltHL4 := HL.out.lt
    replace HL := Lib.hid (HL.out.alloc (.cells #[.pointer (some ⟨gb, 0, none⟩), .slice (some ⟨bn, 0, none⟩) n n, .slice (some ⟨bl, 0, none⟩) n n, .int .i64 0, .slice none 0 0, .slice (some ⟨bi, 0, none⟩) n n, .slice none 0 0, .slice none 0 0] 47))
    refine hK.out _ _ (fun _ _ => HS.out _ hA4) ?_
    clear hK K
    try simp only [Act.put, sq]
    obtain ⟨wa4, hwa4⟩ : ∃ q, wa3.alloc (.cells #[.pointer (some ⟨gb, 0, none⟩), .slice (some ⟨bn, 0, none⟩) n n, .slice (some ⟨bl, 0, none⟩) n n, .int .i64 0, .slice none 0 0, .slice (some ⟨bi, 0, none⟩) n n, .slice none 0 0, .slice none 0 0] 47) = q := ⟨_, rfl⟩
    obtain ⟨f, hgb4⟩ : ∃ q, wa3.heap.size = q := ⟨_, rfl⟩
    have hlf : W1.heap.size ≤ f := by rw [← hgb4]; exact hA3.size
    simp only [hwa4, hgb4] at hA4 HF HI HN HL hltHI4 hltHN4 hltHL4 ⊢
    clear hwa4 hgb4
    refine won 9 rfl fun K hK => ?_
    go_simp
    refine hK.out _ _ (fun _ h => h) ?_
    clear hK K
    try simp only [Act.put, sq]
    refine wpAnyM_done (by kernel_rfl) ?_ _
    try simp only [Act.put, sq]
    have HB9 := Lib.hid hA4
    have HGr9 := Lib.hid (HGr.out.later hA4)
    clear hA4
    go_wp2_with fail
    go_meet
    exact ⟨f, bn, bl, bi, rfl, ⟨_, _, _, [], [], HF.out, HN.out, HL.out, HI.out, World.ownsRow_nil _ _ _ _, World.ownsRow_nil _ _ _ _, World.ownsRow_nil _ _ _ _, rfl, ⟨rfl, fun i hi => absurd hi (Nat.not_lt_zero i)⟩, ⟨rfl, fun i hi => absurd hi (Nat.not_lt_zero i)⟩, ⟨hne, by simp [Value.ownBlock], by simp [Value.ownBlock]⟩, ⟨tb, fb, F, m, HL1.out, HGr9.out⟩, by have := HB1.out.size; omega⟩, below_next HB1.out HB9.out⟩
   ·go_simp
    have hA2 := hA1.alloc hA1.size (.cells (vnats (NumL n fun _ => 0)).toArray 3)
    have HL := Lib.hid (Blk.new wa1 3 (vnats (NumL n fun _ => 0)))
    have hltHI2 := HI.out.lt
    replace HI := Lib.hid (HI.out.alloc (.cells (vnats (NumL n fun _ => 0)).toArray 3))
    refine hK.out _ _ (fun _ _ => HS.out _ hA2) ?_
    clear hK K
    try simp only [Act.put, sq]
    obtain ⟨wa2, hwa2⟩ : ∃ q, wa1.alloc (.cells (vnats (NumL n fun _ => 0)).toArray 3) = q := ⟨_, rfl⟩
    obtain ⟨bl, hgb2⟩ : ∃ q, wa1.heap.size = q := ⟨_, rfl⟩
    have hlbl : W1.heap.size ≤ bl := by rw [← hgb2]; exact hA1.size
    simp only [hwa2, hgb2] at hA2 HL HI hltHI2 ⊢
    clear hwa2 hgb2
    refine won 2 rfl fun K hK => ?_
    go_simp
    have hA3 := hA2.alloc hA2.size (.cells (vnats (NumL n fun _ => 0)).toArray 3)
    have HN := Lib.hid (Blk.new wa2 3 (vnats (NumL n fun _ => 0)))
    have hltHI3 := HI.out.lt
    replace HI := Lib.hid (HI.out.alloc (.cells (vnats (NumL n fun _ => 0)).toArray 3))
    have hltHL3 := HL.out.lt
    replace HL := Lib.hid (HL.out.alloc (.cells (vnats (NumL n fun _ => 0)).toArray 3))
    refine hK.out _ _ (fun _ _ => HS.out _ hA3) ?_
    clear hK K
    try simp only [Act.put, sq]
    obtain ⟨wa3, hwa3⟩ : ∃ q, wa2.alloc (.cells (vnats (NumL n fun _ => 0)).toArray 3) = q := ⟨_, rfl⟩
    obtain ⟨bn, hgb3⟩ : ∃ q, wa2.heap.size = q := ⟨_, rfl⟩
    have hlbn : W1.heap.size ≤ bn := by rw [← hgb3]; exact hA2.size
    simp only [hwa3, hgb3] at hA3 HN HI HL hltHI3 hltHL3 ⊢
    clear hwa3 hgb3
    have hne : bn ≠ bl := by omega
    refine won 7 rfl fun K hK => ?_
    go_simp
    refine hK.out _ _ (fun _ h => h) ?_
    clear hK K
    try simp only [Act.put, sq]
    refine won 8 rfl fun K hK => ?_
    go_simp
    have hA4 := hA3.alloc hA3.size (.cells #[.pointer (some ⟨gb, 0, none⟩), .slice (some ⟨bn, 0, none⟩) n n, .slice (some ⟨bl, 0, none⟩) n n, .int .i64 0, .slice none 0 0, .slice (some ⟨bi, 0, none⟩) n n, .slice none 0 0, .slice none 0 0] 47)
    have HF := Lib.hid (Blk.new wa3 47 ([.pointer (some ⟨gb, 0, none⟩), .slice (some ⟨bn, 0, none⟩) n n, .slice (some ⟨bl, 0, none⟩) n n, .int .i64 0, .slice none 0 0, .slice (some ⟨bi, 0, none⟩) n n, .slice none 0 0, .slice none 0 0]))
    have hltHI4 := HI.out.lt
    replace HI := Lib.hid (HI.out.alloc (.cells #[.pointer (some ⟨gb, 0, none⟩), .slice (some ⟨bn, 0, none⟩) n n, .slice (some ⟨bl, 0, none⟩) n n, .int .i64 0, .slice none 0 0, .slice (some ⟨bi, 0, none⟩) n n, .slice none 0 0, .slice none 0 0] 47))
    have hltHL4 := HL.out.lt
    replace HL := Lib.hid (HL.out.alloc (.cells #[.pointer (some ⟨gb, 0, none⟩), .slice (some ⟨bn, 0, none⟩) n n, .slice (some ⟨bl, 0, none⟩) n n, .int .i64 0, .slice none 0 0, .slice (some ⟨bi, 0, none⟩) n n, .slice none 0 0, .slice none 0 0] 47))
    have hltHN4 := HN.out.lt
    replace HN := Lib.hid (HN.out.alloc (.cells #[.pointer (some ⟨gb, 0, none⟩), .slice (some ⟨bn, 0, none⟩) n n, .slice (some ⟨bl, 0, none⟩) n n, .int .i64 0, .slice none 0 0, .slice (some ⟨bi, 0, none⟩) n n, .slice none 0 0, .slice none 0 0] 47))
    refine hK.out _ _ (fun _ _ => HS.out _ hA4) ?_
    clear hK K
    try simp only [Act.put, sq]
    obtain ⟨wa4, hwa4⟩ : ∃ q, wa3.alloc (.cells #[.pointer (some ⟨gb, 0, none⟩), .slice (some ⟨bn, 0, none⟩) n n, .slice (some ⟨bl, 0, none⟩) n n, .int .i64 0, .slice none 0 0, .slice (some ⟨bi, 0, none⟩) n n, .slice none 0 0, .slice none 0 0] 47) = q := ⟨_, rfl⟩
    obtain ⟨f, hgb4⟩ : ∃ q, wa3.heap.size = q := ⟨_, rfl⟩
    have hlf : W1.heap.size ≤ f := by rw [← hgb4]; exact hA3.size
    simp only [hwa4, hgb4] at hA4 HF HI HL HN hltHI4 hltHL4 hltHN4 ⊢
    clear hwa4 hgb4
    refine won 9 rfl fun K hK => ?_
    go_simp
    refine hK.out _ _ (fun _ h => h) ?_
    clear hK K
    try simp only [Act.put, sq]
    refine wpAnyM_done (by kernel_rfl) ?_ _
    try simp only [Act.put, sq]
    have HB9 := Lib.hid hA4
    have HGr9 := Lib.hid (HGr.out.later hA4)
    clear hA4
    go_wp2_with fail
    go_meet
    exact ⟨f, bn, bl, bi, rfl, ⟨_, _, _, [], [], HF.out, HN.out, HL.out, HI.out, World.ownsRow_nil _ _ _ _, World.ownsRow_nil _ _ _ _, World.ownsRow_nil _ _ _ _, rfl, ⟨rfl, fun i hi => absurd hi (Nat.not_lt_zero i)⟩, ⟨rfl, fun i hi => absurd hi (Nat.not_lt_zero i)⟩, ⟨hne, by simp [Value.ownBlock], by simp [Value.ownBlock]⟩, ⟨tb, fb, F, m, HL1.out, HGr9.out⟩, by have := HB1.out.size; omega⟩, below_next HB1.out HB9.out⟩
 case rest =>
  obtain ⟨f, bn, bl, bi, rfl, hfw, hbc⟩ := hcut
  clear mkI mkB
  obtain ⟨WC, rfl⟩ : ∃ q, q = wc := ⟨_, rfl⟩
  have HFw := Lib.hid hfw
  have HBc := Lib.hid hbc
  have HTc := Lib.hid (HTb.out.below hbc)
  have HE : RowKit.Hid (EdgeP (adjP T) = EdgL N) := Lib.hid (reach_same (edge_adj HSp.out))
  have HAd : RowKit.Hid (∀ a, ∀ b ∈ adjP T a, b < n) := Lib.hid (fun a b hb => by
   have : EdgeP (adjP T) a b := hb
   rw [HE.out] at this
   exact (edgL_lt HN.out a b this).2)
  clear hfw hbc HGr HSp HB1 HL1 HOk
  go_wp2_with fail
  go_loopw [29] (fun i wr => ∃ k : Nat, k ≤ n ∧ i = .int .i64 k ∧ OfR w.heap.size f gb bn bl bi n T k wr ∧ Below w.heap.size w wr) (fun i _ => n - (RowKit.intOf i).toNat)
  case atStart => exact ⟨0, Nat.zero_le _, rfl, ⟨startP, HFw.out, start_inv n _, ⟨by show 0 + unvP n (fun _ => 0) = n; rw [unv_start]; omega, Nat.le_refl _⟩, rfl, fun x hx => absurd hx (Nat.not_lt_zero x)⟩, HBc.out⟩
  case round =>
   obtain ⟨k, hk, rfl, ⟨s, hfw, hI, hBd, hst, hnum⟩, hbw⟩ := hrel
   have HTr := Lib.hid (HTb.out.below hbw)
   by_cases hlt : k < n
   ·by_cases h0 : s.num k = 0
    ·have HF2 := Lib.hid (follow_any hfw hI hBd hst HTr.out hbw.size k hlt h0 hn HAd.out)
     obtain ⟨vh, vs, vp, qs, ps, hv⟩ := hfw
     have c1 := hv.box.cell 1 rfl
     have d1 := hv.num.cell k (numL_zero n k hlt _)
     rw [h0] at d1
     have HNm := Lib.hid hnum
     have HBw := Lib.hid hbw
     clear hv hI hBd hst hnum hbw h0
     go_wp2_with fail
     refine HF2.out.mono ?_
     rintro e w2 ⟨rfl, ⟨s', ⟨k1, k2, k3, k4, k5⟩, k6⟩, hb2⟩
     have HR : RowKit.Hid (OfR w.heap.size f gb bn bl bi n T (k + 1) w2) := Lib.hid ⟨s', k1, k2, k3, k6, fun x hx => by
      by_cases e : x = k
      ·rw [e]; exact k5
      ·exact k4 x (HNm.out x (by omega))⟩
     have HB2 := Lib.hid (HBw.out.trans hb2)
     clear k1 k2 k3 k4 k5 k6 hb2 HF2 c1 d1
     go_wp2_with fail
     go_roundw
     case rel => exact ⟨k + 1, by omega, by go_num, HR.out, HB2.out⟩
     case measure => simp [RowKit.intOf]; omega
    ·have HR : RowKit.Hid (OfR w.heap.size f gb bn bl bi n T (k + 1) wr) := Lib.hid ⟨s, hfw, hI, hBd, hst, fun x hx => by
      by_cases e : x = k
      ·rw [e]; exact h0
      ·exact hnum x (by omega)⟩
     obtain ⟨vh, vs, vp, qs, ps, hv⟩ := hfw
     have c1 := hv.box.cell 1 rfl
     have d1 := hv.num.cell k (numL_zero n k hlt _)
     have e0 : (((s.num k : Nat) : Int) == 0) = false := by simpa using h0
     have HB2 := Lib.hid hbw
     generalize s.num k = z at d1 e0 h0
     clear hv hI hBd hst hnum hbw h0
     go_wp2_with fail
     go_roundw
     case rel => exact ⟨k + 1, by omega, by go_num, HR.out, HB2.out⟩
     case measure => simp [RowKit.intOf]; omega
   ·have hkn : k = n := by omega
    subst hkn
    have HI := Lib.hid hI
    have HBd := Lib.hid hBd
    have HSt := Lib.hid hst
    have HNm := Lib.hid hnum
    have HBw := Lib.hid hbw
    have hpc : s.parts.length ≤ k := by
     obtain ⟨b1, b2⟩ := hBd
     omega
    obtain ⟨vh, vs, vp, qs, ps, hv⟩ := hfw
    have c7 := hv.box.cell 7 rfl
    have hps := hv.parts.1
    by_cases hp0 : ps.length = 0
    ·have hsp0 : s.parts = [] := List.eq_nil_of_length_eq_zero (by omega)
     have HPk : RowKit.Hid (PartsK k (EdgL N) k []) := Lib.hid (by
      have h9 := search_parts HI.out HSt.out HNm.out [] (by rw [hsp0]) List.Pairwise.nil
      rw [HE.out] at h9
      exact h9)
     have hpar := hv.par
     rw [hp0] at hpar
     obtain ⟨pp, cp, rfl⟩ := owns_form hpar
     have HSo := Lib.hid (AnyF.slices_SortFunc_none Tryd.laysSortP0 pp cp (.func (.func 19) #[] #[]) wr)
     clear hv hI hBd hst hnum hbw hpar hps hp0 hsp0 hpc
     go_wp2_with fail
     refine HSo.out.mono ?_
     rintro e w2 ⟨rfl, hw⟩
     subst hw
     go_wp2_with fail
     go_returns
     exact ⟨pp, cp, [], rfl, HPk.out, fun i hi => absurd hi (Nat.not_lt_zero i), HBw.out⟩
    ·obtain ⟨g, cp, rfl⟩ := own_someP hv.par (by omega)
     have HSo := Lib.hid (sortps_any hv.par hv.parts (fun L hL => (HI.out.part L hL).1) (fun L hL x hx => by
      have := HI.out.pn x ((HI.out.part L hL).2.2 x hx).1
      omega) (by omega) (by omega))
     have HBx := Lib.hid hv.box
     have hgl := (hv.par.lt g rfl)
     have hgf : f ≠ g := fun q => by
      subst q
      rcases hv.par.2 with ⟨e0, -⟩ | ⟨g', cap, cur, e0, -, hw, -⟩
      ·cases e0
      ·injection e0 with q1 q2 q3
       injection q1 with q1
       injection q1 with q1 _ _
       subst q1
       have h8 : wr.heap[f]? = some (.cells _ _ (0, 0)) := hv.box
       rw [hw] at h8
       injection h8 with h8
       injection h8 with _ h8
       exact absurd h8 (by decide)
     have HGl := Lib.hid hgl
     have HGf := Lib.hid hgf
     have HPs := Lib.hid hps
     clear hv hI hBd hst hnum hbw hgl hgf hps hp0 hpc
     go_wp2_with fail
     refine HSo.out.mono ?_
     rintro e w2 ⟨rfl, hgr, P, hp1, hp2, hp3⟩
     have hB2 := HBx.out.kept hgr (fun q => HGf.out (by injection q))
     have HB2 := Lib.hid (HBw.out.grown hgr HBw.out.size (fun k hk => by
      injection hk with hk
      subst hk
      exact HGl.out.1))
     have HPk : RowKit.Hid (PartsK k (EdgL N) k P) := Lib.hid (by
      have h9 := search_parts HI.out HSt.out HNm.out P hp1 hp2
      rw [HE.out] at h9
      exact h9)
     have hpl : ps.length = P.length := by rw [hp1.length_eq]; exact HPs.out
     rw [hpl] at hB2
     have HP3 := Lib.hid hp3
     have c7' := hB2.cell 7 rfl
     clear hgr hp1 hp2 hp3 hB2 c7 HSo HPs hpl
     go_wp2_with fail
     go_returns
     exact ⟨some ⟨g, 0, none⟩, cp, P, rfl, HPk.out, HP3.out, HB2.out⟩
set_option maxRecDepth 100000 in
set_option maxHeartbeats 4000000 in
theorem pof_no (n : Int) (p : Option Addr) (c : Nat) (L : List EdgI) (w : World) (h : HasE w p L) (hl : L.length ≤ 900) (hno : n < 0 ∨ 500 < n ∨ okE n.toNat L = false) :
  Calls Tryd.prog 8 #[.int .i64 n, .slice p L.length c] w fun e w' => e = .returned (.tuple #[.slice none 0 0, .int .i64 2]) ∧ Below w.heap.size w w' := by
 have HO : RowKit.Hid (Calls Tryd.prog 16 #[.int .i64 n, .slice p L.length c] w fun e w' => e = .returned (.tuple #[.pointer none, .int .i64 2]) ∧ Below w.heap.size w w') := Lib.hid (by
  by_cases h1 : n < 0 ∨ 500 < n
  ·refine (gof_no n h1 _ w).mono ?_
   rintro e w' ⟨rfl, rfl⟩
   exact ⟨rfl, Below.refl _ _⟩
  ·have h2 : okE n.toNat L = false := by
    rcases hno with q | q | q
    ·exact absurd (.inl q) h1
    ·exact absurd (.inr q) h1
    ·exact q
   obtain ⟨k, rfl⟩ : ∃ k : Nat, n = k := ⟨n.toNat, by omega⟩
   refine (gof_any k (by omega) p c L w h hl).mono ?_
   rintro e w' ⟨-, h3, h4⟩
   exact ⟨h3 (by simpa using h2), h4⟩)
 clear h hl hno
 go_enter Tryd.func8, Tryd.ntmps8
 go_wp2_with fail
 refine HO.out.mono ?_
 rintro e w1 ⟨rfl, hb1⟩
 go_wp2_with fail
 go_returns
 exact ⟨rfl, hb1⟩
end Go.Proofs.YtldcbapjiflblaaDoor
