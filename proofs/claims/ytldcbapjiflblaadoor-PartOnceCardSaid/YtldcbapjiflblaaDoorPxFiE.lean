/-
  Layer 20 (part): a node is begun, walked. No conditions but that math/bits's table is as its initialiser lays it.
-/
import Derived.Test.YtldcbapjiflblaaDoorPxFiA
namespace Go.Proofs.YtldcbapjiflblaaDoor
open Go.RowKit Go.Lib
def TabK (B : Nat) (w : World) : Prop := TabAt 0 Lib.deBruijn64tab w ∧ 0 < B
theorem TabK.below {B : Nat} {w w' : World} (h : TabK B w) (hb : Below B w w') : TabK B w' := ⟨fun j hj => by
 have e := hb.block _ h.2
 have h1 := h.1 j hj
 simp only [World.cell?, e] at h1 ⊢
 exact h1, h.2⟩
def adjP (T : List (List Nat)) (x : Nat) : List Nat := allB (T.getD x [])
theorem lies_new {w w' : World} {ok : Nat → Prop} {p : Option Addr} {c : Nat} {l : List Nat} (h : w'.ownsRow w.heap.size 3 1 (.slice p l.length c) l.length (vnats l)) (hok : ∀ g, w.heap.size ≤ g → ok g) : Lies w' ok (.slice p l.length c) l := by
 rcases h.2 with ⟨e, h0⟩ | ⟨g, cap, cur, e, hB, hw, h1, h2, h3, h4⟩
 ·injection e with e1 e2 e3
  subst e3
  refine ⟨p, 0, rfl, by omega, by unfold maxLen; omega, fun hl => absurd (List.eq_nil_of_length_eq_zero h0) hl⟩
 ·injection e with e1 e2 e3
  subst e1
  subst e3
  refine ⟨_, _, rfl, h1, h2, fun _ => ⟨g, 0, cur, rfl, hw, hok g hB, fun j hj => ?_⟩⟩
  have h5 := congrArg (fun x : List Value => x[j]?) h4
  simp only [List.getElem?_take, show j < l.length * 1 by omega, if_true, Array.getElem?_toList] at h5
  rw [Nat.zero_add, h5]
  exact vnats_at l j hj
theorem Lies.later {w w' : World} {ok : Nat → Prop} {v : Value} {l : List Nat} (h : Lies w ok v l) (hb : Below w.heap.size w w') : Lies w' ok v l := h.kept (fun g _ hg ho => ⟨hb.block g (Array.getElem?_eq_some_iff.1 hg).1, ho⟩)
theorem Lies.alloc {w : World} {ok : Nat → Prop} {v : Value} {l : List Nat} (h : Lies w ok v l) (o : Obj) : Lies (w.alloc o) ok v l := h.later ((Below.refl _ _).alloc (Nat.le_refl _) _)
theorem FinV.alloc {X : Nat → Prop} {w : World} {B f gb bn bl bi n : Nat} {T : List (List Nat)} {s : StP} {I : List Nat} {vh vs vp : Value} {qs : List (Nat × Value)} {ps : List Value} (h : FinV X w B f gb bn bl bi n T s I vh vs vp qs ps) (o : Obj) : FinV X (w.alloc o) B f gb bn bl bi n T s I vh vs vp qs ps := h.later ((Below.refl _ _).alloc (Nat.le_refl _) _)
theorem info_frame : (Tryd.prog.info? 61).map (fun i => (i.zero, i.size, i.bytes)) = some (some (.agg #[.int .i64 0, .slice none 0 0]), 2, 32) := by kernel_rfl
set_option maxRecDepth 100000 in
set_option maxHeartbeats 4000000 in
theorem enter_any {w : World} {B f gb bn bl bi n : Nat} {T : List (List Nat)} {s : StP} (h : FinW w B f gb bn bl bi n T s) (hT : TabK B w) (hBw : B ≤ w.heap.size) (a : Nat) (ha : a < n) (hc : s.count ≤ 10000) (hh : s.held.length ≤ 10000) (hs : s.stack.length ≤ 10000) :
  Calls Tryd.prog 29 #[.pointer (some ⟨f, 0, none⟩), .int .i64 (a : Nat)] w fun e w' => e = .returned (.tuple #[]) ∧ FinW w' B f gb bn bl bi n T (enterP (adjP T) s s.stack a) ∧ Below B w w' := by
 obtain ⟨vh, vs, vp, qs, ps, hv⟩ := h
 have hql : qs.length = s.stack.length := by have := congrArg List.length hv.path; simpa using this
 obtain ⟨ph, ch, rfl⟩ := owns_form hv.held
 obtain ⟨p6, c6, rfl⟩ := owns_form hv.stk
 have HLw : RowKit.Hid (B ≤ f ∧ B ≤ bn ∧ B ≤ bl ∧ B ≤ bi) := Lib.hid hv.low4
 have e1 : IntKind.i64.wrap ((s.count : Int) + 1) = ((s.count + 1 : Nat) : Int) := by rw [IntKind.wrap_i64]; omega
 have c3 := hv.box.cell 3 rfl
 have f3 := hv.box.frozen 3
 have HV := Lib.hid hv
 obtain ⟨k, hk⟩ : ∃ k, s.count + 1 = k := ⟨_, rfl⟩
 rw [hk] at e1
 have HV1 := Lib.hid (hv.count k)
 have hb1 : Below B w (w.setCell ⟨f, 3, none⟩ (.int .i64 (k : Nat))) := (Below.refl B w).setCell (p := ⟨f, 3, none⟩) hv.low4.1 _
 have HK := Lib.hid hk
 have HSt := Lib.hid hs
 clear hv hk hs
 go_enter Tryd.func29, Tryd.ntmps29
 go_upto_region 1 with fail
 obtain ⟨W1, hW1⟩ : ∃ q, w.setCell ⟨f, 3, none⟩ (.int .i64 (k : Nat)) = q := ⟨_, rfl⟩
 have hsz1 : W1.heap.size = w.heap.size := by rw [← hW1]; simp
 rw [hW1] at HV1 hb1 ⊢
 clear hW1 c3 f3 e1
 have HB1 := Lib.hid hb1
 have HSz1 := Lib.hid hsz1
 clear hb1 hsz1
 obtain ⟨v1, hv1⟩ : ∃ v, (vnats (NumL n s.num))[a]? = some v := ⟨_, vnats_at _ a (by rw [numL_len]; exact ha)⟩
 obtain ⟨v2, hv2⟩ : ∃ v, (vnats (NumL n s.low))[a]? = some v := ⟨_, vnats_at _ a (by rw [numL_len]; exact ha)⟩
 have hx1 := HV1.out.num.cell a hv1
 have hx2 := HV1.out.low.cell a hv2
 have hne1 : ¬ bn = bl := HV1.out.ne.1
 have hne2 : ¬ bl = bn := fun e => HV1.out.ne.1 e.symm
 have HV2 := Lib.hid (HV1.out.setNum a k)
 have HV3a := Lib.hid (HV2.out.setLow a k)
 have hy := HV2.out.low.cell a hv2
 have fy := HV2.out.low.frozen a
 have HX1 := Lib.hid hx1
 have HX2 := Lib.hid hx2
 have HS : RowKit.Hid (∀ w', Below W1.heap.size W1 w' → w'.cell? ⟨f, 1, none⟩ = some (.slice (some ⟨bn, 0, none⟩) n n) ∧ w'.cell? ⟨f, 2, none⟩ = some (.slice (some ⟨bl, 0, none⟩) n n) ∧ w'.cell? ⟨f, 3, none⟩ = some (.int .i64 (k : Nat)) ∧ w'.cell? ⟨bn, a, none⟩ = some v1 ∧ w'.cell? ⟨bl, a, none⟩ = some v2 ∧ w'.frozen? ⟨bn, a, none⟩ = false ∧ w'.frozen? ⟨bl, a, none⟩ = false ∧ Below W1.heap.size W1 w') := Lib.hid (fun w' hb => ⟨(HV1.out.box.later hb).cell 1 rfl, (HV1.out.box.later hb).cell 2 rfl, (HV1.out.box.later hb).cell 3 rfl, cell_later hb HX1.out, cell_later hb HX2.out, (HV1.out.num.later hb).frozen a, (HV1.out.low.later hb).frozen a, hb⟩)
 clear hx1 hx2 hv1 hv2
 refine wpk HS [19, 21] (by kernel_rfl) fun hB0 hS0 => ?_
 refine wfr 0 (v := ?_) rfl ?_ ?_
 rotate_left
 ·intro w' hw';go_simp;try with_reducible rfl
 try simp only [Act.put, sq]
 refine wfr 1 (v := ?_) rfl ?_ ?_
 rotate_left
 ·intro w' hw';go_simp;try with_reducible rfl
 try simp only [Act.put, sq]
 refine wfr 2 (v := ?_) rfl ?_ ?_
 rotate_left
 ·intro w' hw';go_simp;try with_reducible rfl
 try simp only [Act.put, sq]
 refine wtk 3 22 (v := ?_) rfl ?_ hS0 ?_
 rotate_left
 ·intro w' hw';(try dsimp only at hw');go_simp;try with_reducible rfl
 try simp only [Act.put, sq]
 refine wfr 4 (v := ?_) rfl ?_ ?_
 rotate_left
 ·intro w' hw';go_simp;try with_reducible rfl
 try simp only [Act.put, sq]
 refine wfr 5 (v := ?_) rfl ?_ ?_
 rotate_left
 ·intro w' hw';go_simp;try with_reducible rfl
 try simp only [Act.put, sq]
 refine wfr 6 (v := ?_) rfl ?_ ?_
 rotate_left
 ·intro w' hw';go_simp;try with_reducible rfl
 try simp only [Act.put, sq]
 refine wfr 7 (v := ?_) rfl ?_ ?_
 rotate_left
 ·intro w' hw';go_simp;try with_reducible rfl
 try simp only [Act.put, sq]
 refine wtk 8 22 (v := ?_) rfl ?_ hS0 ?_
 rotate_left
 ·intro w' hw';(try dsimp only at hw');go_simp;try with_reducible rfl
 try simp only [Act.put, sq]
 refine wfr 9 (v := ?_) rfl ?_ ?_
 rotate_left
 ·intro w' hw';go_simp;try with_reducible rfl
 try simp only [Act.put, sq]
 refine wfr 10 (v := ?_) rfl ?_ ?_
 rotate_left
 ·intro w' hw';go_simp;try with_reducible rfl
 try simp only [Act.put, sq]
 refine wfr 11 (v := ?_) rfl ?_ ?_
 rotate_left
 ·intro w' hw';go_simp;try with_reducible rfl
 try simp only [Act.put, sq]
 refine wfr 12 (v := ?_) rfl ?_ ?_
 rotate_left
 ·intro w' hw';go_simp;try with_reducible rfl
 try simp only [Act.put, sq]
 refine wtk 13 22 (v := ?_) rfl ?_ hS0 ?_
 rotate_left
 ·intro w' hw';(try dsimp only at hw');go_simp;try with_reducible rfl
 try simp only [Act.put, sq]
 refine won 14 rfl fun K hK => ?_
 go_simp
 refine hK.out _ _ (fun _ h => h) ?_
 clear hK K
 try simp only [Act.put, sq]
 refine won 15 rfl fun K hK => ?_
 go_simp
 refine hK.out _ _ (fun _ h => h) ?_
 clear hK K
 try simp only [Act.put, sq]
 refine won 16 rfl fun K hK => ?_
 go_simp
 refine hK.out _ _ (fun _ h => h) ?_
 clear hK K
 try simp only [Act.put, sq]
 refine won 17 rfl fun K hK => ?_
 go_simp
 refine hK.out _ _ (fun _ h => h) ?_
 clear hK K
 try simp only [Act.put, sq]
 refine won 18 rfl fun K hK => ?_
 go_simp
 refine hK.out _ _ (fun _ h => h) ?_
 clear hK K
 try simp only [Act.put, sq]
 refine won 19 rfl fun K hK => ?_
 go_simp
 refine hK.out _ _ (fun h => absurd h (by decide)) ?_
 clear hK K
 try simp only [Act.put, sq]
 refine won 20 rfl fun K hK => ?_
 go_simp
 refine hK.out _ _ (fun _ h => h) ?_
 clear hK K
 try simp only [Act.put, sq]
 refine won 21 rfl fun K hK => ?_
 go_simp
 refine hK.out _ _ (fun h => absurd h (by decide)) ?_
 clear hK K
 try simp only [Act.put, sq]
 refine wpAnyM_done (by kernel_rfl) ?_ _
 try simp only [Act.put, sq]
 have hv2 := HV3a.out.later (Below.drew (Below.refl _ _))
 have hb2 : Below B w ((W1.setCell ⟨bn, a, none⟩ (.int .i64 (k : Nat))).setCell ⟨bl, a, none⟩ (.int .i64 (k : Nat))).drew := (((HB1.out.setCell (p := ⟨bn, a, none⟩) HLw.out.2.1 _).setCell (p := ⟨bl, a, none⟩) HLw.out.2.2.1 _)).drew
 obtain ⟨W2, hW2⟩ : ∃ q, ((W1.setCell ⟨bn, a, none⟩ (.int .i64 (k : Nat))).setCell ⟨bl, a, none⟩ (.int .i64 (k : Nat))).drew = q := ⟨_, rfl⟩
 have hs2 : B ≤ W2.heap.size := by have := HSz1.out; rw [← hW2]; simp; omega
 rw [hW2] at hv2 hb2 ⊢
 have HV4 := Lib.hid hv2
 have HB4 := Lib.hid hb2
 have c4 := hv2.box.cell 4 rfl
 have hrow := hv2.held.alloc (.cells #[.int .i64 (a : Nat)] 3)
 clear hW2 hv2 hb2 hS0 hB0 hy fy HS HV1 HV2 HV3a HX1 HX2 HB1 HSz1
 obtain ⟨i1, hj, hj0, hj1, hj2⟩ := info_parts info_nat
 go_upto_region 2 with fail
 go_wp2_with (at_builtin; go_loud (refine wpList_append_own_at _ rfl _ _ 29 rfl B 3 i1 (.int .i64 0) 1 8 Tryd.underlying29 hj hj0 hj1 hj2 rfl (by decide) _ _ _ rfl hrow ⟨W2.heap.size, 0, none⟩ 1 1 [.int .i64 (a : Nat)] rfl rfl (news_lit W2 [.int .i64 (a : Nat)] _ _ rfl) (ones_nat _) ?_ ?_ (Nat.le_trans hs2 (by simp)) ?_))
 ·unfold maxLen
  omega
 ·omega
 intro v' w5 hown5 hg5 hnil5 hat5
 have HV5 := Lib.hid ((HV4.out.alloc (.cells #[.int .i64 (a : Nat)] 3)).more a v' hown5 hg5 (by rw [World.size_alloc]; exact hat5))
 have hB5 : Below B w w5 := (HB4.out.alloc (Nat.le_trans hBw HB4.out.size) _).grown hg5 (Nat.le_trans hs2 (by simp)) (fun q hq => (hrow.lt q hq).1)
 have HB5 := Lib.hid (hB5.setCell (p := ⟨f, 4, none⟩) HLw.out.1 v')
 have hbx : Blk w5 f _ _ := box_grown (HV4.out.box.alloc (.cells #[.int .i64 (a : Nat)] 3)) hrow (by decide) hg5
 have q4 := hbx.cell 4 rfl
 have f4 := hbx.frozen 4
 obtain ⟨p5, c5, rfl⟩ := owns_form hown5
 clear hbx hB5 hown5 hg5 hnil5 hat5 hrow c4 HV4 HB4 hs2
 go_upto_region 3 with fail
 obtain ⟨W5, hW5⟩ : ∃ q, w5.setCell ⟨f, 4, none⟩ (.slice p5 (s.held.length + 1) c5) = q := ⟨_, rfl⟩
 rw [hW5] at HV5 HB5 ⊢
 clear hW5 q4 f4
 have d5 := HV5.out.box.cell 5 rfl
 have d6 := HV5.out.is.cell a (isL_at _ ha)
 have d7 := HV5.out.is.frozen a
 have HV6 := Lib.hid (HV5.out.setIs a true _ (isL_in s.held))
 have HB6 := Lib.hid (HB5.out.setCell (p := ⟨bi, a, none⟩) HLw.out.2.2.2 (.bool true))
 clear HV5 HB5
 go_upto_region 4 with fail
 obtain ⟨W3, hW3⟩ : ∃ q, W5.setCell ⟨bi, a, none⟩ (.bool true) = q := ⟨_, rfl⟩
 rw [hW3] at HV6 HB6 ⊢
 clear hW3 d5 d6 d7
 obtain ⟨vh, hvh⟩ : ∃ v, (.slice p5 (s.held.length + 1) c5 : Value) = v := ⟨_, rfl⟩
 have FV3 := HV6
 rw [hvh] at FV3
 have HB3 := HB6
 have hBw : B ≤ W3.heap.size := Nat.le_trans hBw HB3.out.size
 obtain ⟨i0, hi, hz0, hz1, hz2⟩ := info_parts info_frame
 have HTK := Lib.hid (hT.below HB3.out)
 obtain ⟨adj, hadj⟩ : ∃ q, adjP T = q := ⟨_, rfl⟩
 have HNx : RowKit.Hid (∀ w', Below W3.heap.size W3 w' → Calls Tryd.prog 40 #[.pointer (some ⟨gb, 0, none⟩), .int .i64 (a : Nat)] w' fun e w1 => ∃ v', e = .returned v' ∧ w1.ownsRow w'.heap.size 3 1 v' (adj a).length (vnats (adj a)) ∧ Below w'.heap.size w' w1) := Lib.hid (fun w' hb => by
  obtain ⟨tb, fb, F, m, k1, k2⟩ := FV3.out.gr
  rw [← hadj]
  exact gnext_any (k2.later hb) a (by omega) (HTK.out.below (hb.mono hBw)).1)
 have HS : RowKit.Hid (∀ w', Below W3.heap.size W3 w' → w'.cell? ⟨f, 0, none⟩ = some (.pointer (some ⟨gb, 0, none⟩)) ∧ w'.cell? ⟨f, 6, none⟩ = some (.slice p6 qs.length c6) ∧ Below W3.heap.size W3 w') := Lib.hid (fun w' hb => ⟨(FV3.out.box.later hb).cell 0 rfl, (FV3.out.box.later hb).cell 6 rfl, hb⟩)
 have HSt2 : RowKit.Hid (s.stack.length ≤ 10000) := HSt
 have hql2 : qs.length ≤ 10000 := by have := HSt.out; omega
 have HA := Lib.hid hadj
 clear hvh hadj hT HV6 HB6 hql
 refine wp_region_keep (fun w' => w'.cell? ⟨f, 0, none⟩ = some (.pointer (some ⟨gb, 0, none⟩)) ∧ w'.cell? ⟨f, 6, none⟩ = some (.slice p6 qs.length c6) ∧ Below W3.heap.size W3 w') [14, 17] (by kernel_rfl) ?_
 have hB0 : Below (W3).heap.size (W3) (W3).drew := Below.drew (Below.refl _ _)
 have FV := Lib.hid (FV3.out.later hB0)
 obtain ⟨wd, hwd⟩ : ∃ q, (W3).drew = q := ⟨_, rfl⟩
 rw [hwd] at hB0 FV ⊢
 clear hwd
 refine wfr 0 (v := ?_) rfl ?_ ?_
 rotate_left
 ·intro w' hw';go_simp;try with_reducible rfl
 try simp only [Act.put, sq]
 refine wfr 1 (v := ?_) rfl ?_ ?_
 rotate_left
 ·intro w' hw';go_simp;try with_reducible rfl
 try simp only [Act.put, sq]
 refine wfr 2 (v := ?_) rfl ?_ ?_
 rotate_left
 ·intro w' hw';go_simp;try with_reducible rfl
 try simp only [Act.put, sq]
 refine wfr 3 (v := ?_) rfl ?_ ?_
 rotate_left
 ·intro w' hw';go_simp;try with_reducible rfl
 try simp only [Act.put, sq]
 refine wtk 4 18 (v := ?_) rfl ?_ (HS.out _ hB0) ?_
 rotate_left
 ·intro w' hw';(try dsimp only at hw');go_simp;try with_reducible rfl
 try simp only [Act.put, sq]
 refine wfr 5 (v := ?_) rfl ?_ ?_
 rotate_left
 ·intro w' hw';go_simp;try with_reducible rfl
 try simp only [Act.put, sq]
 refine wfr 6 (v := ?_) rfl ?_ ?_
 rotate_left
 ·intro w' hw';go_simp;try with_reducible rfl
 try simp only [Act.put, sq]
 refine wfr 7 (v := ?_) rfl ?_ ?_
 rotate_left
 ·intro w' hw';go_simp;try with_reducible rfl
 try simp only [Act.put, sq]
 refine wfr 8 (v := ?_) rfl ?_ ?_
 rotate_left
 ·intro w' hw';go_simp;try with_reducible rfl
 try simp only [Act.put, sq]
 refine wtk 9 18 (v := ?_) rfl ?_ (HS.out _ hB0) ?_
 rotate_left
 ·intro w' hw';(try dsimp only at hw');go_simp;try with_reducible rfl
 try simp only [Act.put, sq]
 refine won 10 rfl fun K hK => ?_
 go_simp
 refine hK.out _ _ (fun _ h => h) ?_
 clear hK K
 try simp only [Act.put, sq]
 refine won 11 rfl fun K hK => ?_
 go_simp
 refine (HNx.out _ hB0).mono ?_
 rintro e wb1 ⟨vv, rfl, hv1, hc1⟩
 obtain ⟨pv, cv, rfl⟩ := owns_form hv1
 have LV : RowKit.Hid (Lies wb1 (OkB (fun _ => True) bn bl vh) (.slice pv (adj a).length cv) (adj a)) := Lib.hid (lies_new hv1 (fun g hg => ⟨fun e => by have := FV.out.num.lt; omega, fun e => by have := FV.out.low.lt; omega, fun e => (by have := (FV.out.held.lt g e).2; omega), trivial⟩))
 clear hv1
 have hB1 := below_next hB0 hc1
 replace FV := Lib.hid (FV.out.later hc1)
 refine hK.out _ _ (fun _ _ => HS.out _ hB1) ?_
 clear hK K hc1
 try simp only [Act.put, sq]
 refine won 12 rfl fun K hK => ?_
 go_simp
 refine hK.out _ _ (fun _ h => h) ?_
 clear hK K
 try simp only [Act.put, sq]
 refine won 13 rfl fun K hK => ?_
 go_simp
 have hA2 := hB1.alloc hB1.size (.cells #[.int .i64 (a : Nat), .slice pv (adj a).length cv] 61)
 have BX := Lib.hid (Blk.new wb1 61 [.int .i64 (a : Nat), .slice pv (adj a).length cv])
 replace FV := Lib.hid (FV.out.alloc (.cells #[.int .i64 (a : Nat), .slice pv (adj a).length cv] 61))
 replace LV := Lib.hid (LV.out.alloc (.cells #[.int .i64 (a : Nat), .slice pv (adj a).length cv] 61))
 refine hK.out _ _ (fun _ _ => HS.out _ hA2) ?_
 clear hK K
 try simp only [Act.put, sq]
 obtain ⟨wa2, hwa2⟩ : ∃ q, wb1.alloc (.cells #[.int .i64 (a : Nat), .slice pv (adj a).length cv] 61) = q := ⟨_, rfl⟩
 obtain ⟨gb2, hgb2⟩ : ∃ q, wb1.heap.size = q := ⟨_, rfl⟩
 have hlt2 : W3.heap.size ≤ gb2 := by rw [← hgb2]; exact hB1.size
 simp only [hwa2, hgb2] at hA2 FV LV BX ⊢
 clear hwa2 hgb2
 refine won 14 rfl fun K hK => ?_
 refine step_append_own_at (by rfl) _ _ 45 (by rfl) B 61 i0 (.agg #[.int .i64 0, .slice none 0 0]) 2 32 Tryd.underlying45 hi hz0 hz1 hz2 rfl (by decide) (.slice p6 qs.length c6) qs.length (frC qs) (by rfl) FV.out.stk ⟨gb2, 0, none⟩ 1 1 [.int .i64 (a : Nat), .slice pv (adj a).length cv] (by rfl) rfl (fun q u hq => by rw [Addr.add_lit, Nat.zero_add]; exact BX.out.cell q hq) (by intro u hu; simp at hu; rcases hu with rfl | rfl <;> rfl) (by unfold maxLen; omega) (by omega) (Nat.le_trans hBw hA2.size) ?_
 intro v3 wa3 hown3 hg3 hat3
 have hA3 : Below B W3 wa3 := (hA2.mono hBw).grown hg3 (Nat.le_trans hBw hA2.size) (fun k hk => (FV.out.stk.lt k hk).1)
 have HP := Lib.hid (FV.out.push a _ v3 _ LV.out hown3 hg3)
 have hbx : Blk wa3 f _ _ := box_grown FV.out.box FV.out.stk (by decide) hg3
 have q6 := hbx.cell 6 rfl
 have f6 := hbx.frozen 6
 have s0 := hbx.cell 0 rfl
 obtain ⟨p9, c9, rfl⟩ := owns_form hown3
 clear hown3 hg3 hat3 hbx FV LV BX
 refine hK.out _ _ (fun h => absurd h (by decide)) ?_
 clear hK K
 try simp only [Act.put, sq]
 refine won 15 rfl fun K hK => ?_
 go_simp
 refine hK.out _ _ (fun _ h => h) ?_
 clear hK K
 try simp only [Act.put, sq]
 refine won 16 rfl fun K hK => ?_
 go_simp
 refine hK.out _ _ (fun _ h => h) ?_
 clear hK K
 try simp only [Act.put, sq]
 refine won 17 rfl fun K hK => ?_
 go_simp
 refine hK.out _ _ (fun h => absurd h (by decide)) ?_
 clear hK K f6 q6 s0
 try simp only [Act.put, sq]
 refine wpAnyM_done (by kernel_rfl) ?_ _
 try simp only [Act.put, sq]
 have HB9 := Lib.hid (HB3.out.trans (hA3.setCell (p := ⟨f, 6, none⟩) HLw.out.1 (.slice p9 (qs.length + 1) c9)))
 go_wp2_with fail
 go_end0
 have h9 := HP.out
 rw [← HK.out] at h9
 exact ⟨rfl, by rw [HA.out]; exact ⟨_, _, _, _, _, h9⟩, HB9.out⟩
end Go.Proofs.YtldcbapjiflblaaDoor
