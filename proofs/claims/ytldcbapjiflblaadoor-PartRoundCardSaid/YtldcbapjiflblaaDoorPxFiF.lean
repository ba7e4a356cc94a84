/-
  Layer 20 (part): a node is followed, and all behind it, walked. No conditions but that math/bits's table is as its initialiser lays it.
-/
import Derived.Test.YtldcbapjiflblaaDoorPxFiL
import Derived.Test.YtldcbapjiflblaaDoorPxFiG
namespace Go.Proofs.YtldcbapjiflblaaDoor
open Go.RowKit Go.Lib
theorem own_someP {w : World} {B n size : Nat} {e : TypeId} {v : Value} {xs : List Value} (h : w.ownsRow B e size v n xs) (hn : 0 < n) : ∃ g c, v = .slice (some ⟨g, 0, none⟩) n c := by
 rcases h.2 with ⟨-, q⟩ | ⟨g, c, cur, q, -⟩
 ·omega
 ·exact ⟨g, c, q⟩
theorem use_ask (S : List (Nat × List Nat)) (f : Nat × List Nat) : askP (S ++ [f]) = askP S + (f.2.length + 1) := ask_snoc S f
def FolR (B f gb bn bl bi n : Nat) (T : List (List Nat)) (f0 : Nat → Nat) (a : Nat) (w : World) (s : StP) : Prop := FinW w B f gb bn bl bi n T s ∧ InvP n (adjP T) s ∧ BndP n s ∧ (∀ x, f0 x ≠ 0 → s.num x ≠ 0) ∧ s.num a ≠ 0
set_option maxRecDepth 100000 in
set_option maxHeartbeats 4000000 in
theorem follow_any {w : World} {B f gb bn bl bi n : Nat} {T : List (List Nat)} {s : StP} (h : FinW w B f gb bn bl bi n T s) (hI : InvP n (adjP T) s) (hBd : BndP n s) (hs : s.stack = []) (hT : TabK B w) (hBw : B ≤ w.heap.size) (a : Nat) (ha : a < n) (h0 : s.num a = 0) (hn : n ≤ 500) (hadj : ∀ a, ∀ b ∈ adjP T a, b < n) :
  Calls Tryd.prog 17 #[.pointer (some ⟨f, 0, none⟩), .int .i64 (a : Nat)] w fun e w' => e = .returned (.tuple #[]) ∧ (∃ s', FolR B f gb bn bl bi n T s.num a w' s' ∧ s'.stack = []) ∧ Below B w w' := by
 have hh := held_few hI
 have HE := Lib.hid (enter_any h hT hBw a ha (by have := hBd.1; omega) (by omega) (by rw [hs]; exact Nat.zero_le _))
 have HI1 := Lib.hid (root_inv hI a ha hs h0)
 have HB1 := Lib.hid (bnd_enter (S := s.stack) (adj := adjP T) hBd rfl ha h0)
 have HS0 := Lib.hid hs
 clear h hI hs hh
 go_enter Tryd.func17, Tryd.ntmps17
 go_wp2_with fail
 refine HE.out.mono ?_
 rintro e w1 ⟨rfl, hw1, hb1⟩
 have HW1 := Lib.hid hw1
 have HBw1 := Lib.hid hb1
 clear HE hw1 hb1
 go_wp2_with fail
 go_loopw [4] (fun _ wr => (∃ s', FolR B f gb bn bl bi n T s.num a wr s') ∧ Below B w wr) (fun _ wr => minOf fun k => ∃ s', FolR B f gb bn bl bi n T s.num a wr s' ∧ measP n s' = k)
 case atStart =>
  refine ⟨⟨_, HW1.out, by rw [HS0.out]; exact HI1.out, HB1.out, fun x hx => ?_, ?_⟩, HBw1.out⟩
  ·show updP s.num a (s.count + 1) x ≠ 0
   by_cases e : x = a
   ·rw [e, updP_same]; omega
   ·rw [updP_other _ e]; exact hx
  ·show updP s.num a (s.count + 1) a ≠ 0
   rw [updP_same]; omega
 case round =>
  obtain ⟨⟨s0, hs0⟩, hbw⟩ := hrel
  obtain ⟨M, hM⟩ : ∃ M, minOf (fun k => ∃ s', FolR B f gb bn bl bi n T s.num a wr s' ∧ measP n s' = k) = M := ⟨_, rfl⟩
  have hex : ∃ s1, FolR B f gb bn bl bi n T s.num a wr s1 ∧ measP n s1 = M := by
   rw [← hM]
   exact minOf_at (P := fun k => ∃ s', FolR B f gb bn bl bi n T s.num a wr s' ∧ measP n s' = k) ⟨_, s0, hs0, rfl⟩
  have HM := Lib.hid hM
  clear hM hs0 s0
  obtain ⟨s1, ⟨⟨vh, vs, vp, qs, ps, hv⟩, hI, hBd, hmo, hna⟩, hms⟩ := hex
  have HFw : RowKit.Hid (FinW wr B f gb bn bl bi n T s1) := Lib.hid ⟨_, _, _, _, _, hv⟩
  have HI := Lib.hid hI
  have HBd := Lib.hid hBd
  have HMo := Lib.hid hmo
  have HNa := Lib.hid hna
  have HMs := Lib.hid hms
  have HBw := Lib.hid hbw
  have hBr : B ≤ wr.heap.size := Nat.le_trans hBw hbw.size
  rcases List.eq_nil_or_concat s1.stack with hst | ⟨S, fr, hst⟩
  ·have hq : qs = [] := by
    have h1 := hv.path
    rw [hst] at h1
    simpa using h1
   subst hq
   obtain ⟨p6, c6, rfl⟩ := owns_form hv.stk
   have c9 := hv.box.cell 6 rfl
   have HSt := Lib.hid hst
   clear hI hBd hmo hna hms hbw hv hst
   go_wp2_with fail
   go_end0
   exact ⟨rfl, ⟨s1, ⟨HFw.out, HI.out, HBd.out, HMo.out, HNa.out⟩, HSt.out⟩, HBw.out⟩
  ·rw [List.concat_eq_append] at hst
   obtain ⟨x, ls⟩ := fr
   obtain ⟨Q, q, rfl⟩ : ∃ Q q, qs = Q ++ [q] := by
    rcases List.eq_nil_or_concat qs with e | ⟨Q, q, e⟩
    ·have h1 := hv.path
     rw [e, hst] at h1
     simp at h1
    ·exact ⟨Q, q, by rw [e, List.concat_eq_append]⟩
   have hpt := hv.path
   rw [hst, List.map_append, List.map_append] at hpt
   have hqx : q.1 = x := by
    have h2 := (List.append_inj' hpt rfl).2
    simpa using h2
   have hpS : ∀ y ∈ s1.stack, y.1 < n := fun y hy => hI.pn _ (hI.hv _ (hI.ps.subset (List.mem_map_of_mem hy)))
   have hxn : x < n := hpS (x, ls) (by rw [hst]; simp)
   have hxh : x ∈ s1.held := hI.ps.subset (by rw [hst]; simp [pathP])
   have hhl := held_few hI
   have hpl : s1.parts.length + s1.stack.length ≤ 500 := by
    have := hBd.1
    have := hBd.2
    omega
   have hle := hv.lefts
   rw [hst, List.map_append, List.map_append] at hle
   have hli := hle.last
   obtain ⟨pl, cl, hq2, hl1, hl2, hl3⟩ := id hli
   obtain ⟨q1, q2⟩ := q
   dsimp only at hqx hq2
   subst hqx
   subst hq2
   have hstk := hv.stk
   rw [show (Q ++ [(q1, (.slice pl ls.length cl : Value))]).length = Q.length + 1 by simp] at hstk
   obtain ⟨g6, c6, rfl⟩ := own_someP hstk (Nat.succ_pos _)
   obtain ⟨m, hm⟩ : ∃ m, Q.length = m := ⟨_, rfl⟩
   rw [hm] at hstk
   have d0 : wr.cell? ⟨g6, m * 2, none⟩ = some (.int .i64 (q1 : Nat)) := by
    rw [hstk.cellAt (m * 2) (by omega)]
    have e1 : frC (Q ++ [(q1, (.slice pl ls.length cl : Value))]) = frC Q ++ [.int .i64 (q1 : Int), .slice pl ls.length cl] := by simp [frC]
    rw [e1, List.getElem?_append_right (by rw [frC_len]; omega), frC_len, show m * 2 - Q.length * 2 = 0 by omega]
    rfl
   have d1 : wr.cell? ⟨g6, m * 2 + 1, none⟩ = some (.slice pl ls.length cl) := by
    rw [hstk.cellAt (m * 2 + 1) (by omega)]
    have e1 : frC (Q ++ [(q1, (.slice pl ls.length cl : Value))]) = frC Q ++ [.int .i64 (q1 : Int), .slice pl ls.length cl] := by simp [frC]
    rw [e1, List.getElem?_append_right (by rw [frC_len]; omega), frC_len, show m * 2 + 1 - Q.length * 2 = 1 by omega]
    rfl
   have c9 : wr.cell? ⟨f, 6, none⟩ = some (.slice (some ⟨g6, 0, none⟩) (m + 1) c6) := by
    have h1 := hv.box.cell 6 rfl
    rw [hm] at h1
    exact h1
   have hmn : m ≤ 500 := by
    have h1 := congrArg List.length hv.path
    rw [List.length_map, List.length_map, List.length_append, hm] at h1
    simp at h1
    omega
   have ewm : IntKind.i64.wrap (m : Int) = (m : Int) := by rw [IntKind.wrap_i64]; omega
   have hm1 : (m : Int) < (m : Int) + 1 := by omega
   have HC9 := Lib.hid c9
   have HD0 := Lib.hid d0
   have HD1 := Lib.hid d1
   have HMq := Lib.hid hm
   have HSt := Lib.hid hst
   have HPs := Lib.hid hpS
   have HV := Lib.hid hv
   have HLi := Lib.hid hli
   have HL3 := Lib.hid hl3
   have HS : RowKit.Hid (∀ w', Below wr.heap.size wr w' → w'.cell? ⟨f, 6, none⟩ = some (.slice (some ⟨g6, 0, none⟩) (m + 1) c6) ∧ Below wr.heap.size wr w') := Lib.hid (fun w' hb => ⟨cell_later hb HC9.out, hb⟩)
   clear hI hBd hmo hna hms hbw hv hst hpt hpS hle hli hl3 hstk hm d0 d1
   go_wp2_with fail
   refine wpk HS [] (by kernel_rfl) fun hB0 hS0 => ?_
   refine wfr 0 (v := ?_) rfl ?_ ?_
   rotate_left
   ·intro w' hw';go_simp;try with_reducible rfl
   try simp only [Act.put, sq]
   refine wfr 1 (v := ?_) rfl ?_ ?_
   rotate_left
   ·intro w' hw';go_simp;try with_reducible rfl
   try simp only [Act.put, sq]
   refine wfr 2 (v := ?_) rfl ?_ ?_
   rotate_left
   ·intro w' hw';go_simp;try with_reducible rfl
   try simp only [Act.put, sq]
   refine wtk 3 12 (v := ?_) rfl ?_ hS0 ?_
   rotate_left
   ·intro w' hw';(try dsimp only at hw');go_simp;try with_reducible rfl
   try simp only [Act.put, sq]
   refine won 4 rfl fun K hK => ?_
   go_simp
   refine hK.out _ _ (fun _ h => h) ?_
   clear hK K
   try simp only [Act.put, sq]
   refine won 5 rfl fun K hK => ?_
   go_simp
   refine hK.out _ _ (fun _ h => h) ?_
   clear hK K
   try simp only [Act.put, sq]
   refine won 6 rfl fun K hK => ?_
   go_simp
   refine hK.out _ _ (fun _ h => h) ?_
   clear hK K
   try simp only [Act.put, sq]
   refine won 7 rfl fun K hK => ?_
   go_simp
   refine hK.out _ _ (fun _ h => h) ?_
   clear hK K
   try simp only [Act.put, sq]
   refine won 8 rfl fun K hK => ?_
   go_simp
   refine hK.out _ _ (fun _ h => h) ?_
   clear hK K
   try simp only [Act.put, sq]
   refine won 9 rfl fun K hK => ?_
   go_simp
   refine hK.out _ _ (fun _ h => h) ?_
   clear hK K
   try simp only [Act.put, sq]
   refine won 10 rfl fun K hK => ?_
   go_simp
   refine hK.out _ _ (fun _ h => h) ?_
   clear hK K
   try simp only [Act.put, sq]
   refine won 11 rfl fun K hK => ?_
   go_simp
   refine hK.out _ _ (fun _ h => h) ?_
   clear hK K
   try simp only [Act.put, sq]
   refine wpAnyM_done (by kernel_rfl) ?_ _
   try simp only [Act.put, sq]
   have e0 := cell_later hB0 HD0.out
   have e1 := cell_later hB0 HD1.out
   obtain ⟨W1, hW1⟩ : ∃ q, wr.drew = q := ⟨_, rfl⟩
   have hz1 : W1.heap.size = wr.heap.size := by rw [← hW1]; rfl
   rw [hW1] at hB0 e0 e1 ⊢
   have HB1 := Lib.hid hB0
   have HBr1 : RowKit.Hid (B ≤ W1.heap.size) := Lib.hid (by rw [hz1]; exact hBr)
   have HFw1 : RowKit.Hid (FinW W1 B f gb bn bl bi n T s1) := Lib.hid ⟨_, _, _, _, _, HV.out.later hB0⟩
   have HBw1 := Lib.hid (HBw.out.trans (hB0.mono hBr))
   clear hW1 hz1 hB0 hS0 HS c9 ewm
   cases ls with
   | nil =>
    have HL := Lib.hid (leave_any HFw1.out HBr1.out S [] q1 HSt.out hxn hxh (held_nodup HI.out) (fun y hy => HI.out.pn y (HI.out.hv y hy)) (fun y hy => HPs.out y (by rw [HSt.out]; exact List.mem_append_left _ hy)) (by omega) (by omega) (by omega))
    go_wp2_with fail
    refine HL.out.mono ?_
    rintro e w2 ⟨rfl, hlp, hb2⟩
    have hap : q1 ∉ pathP S := fun hq => Nat.lt_irrefl _ (leave_lt HI.out S q1 HSt.out q1 hq)
    have hlo : lowerP s1 S q1 q1 = s1.low q1 := lower_other s1 S q1 hap
    have hnew : ∃ s2, FolR B f gb bn bl bi n T s.num a w2 s2 ∧ measP n s2 < M := by
     by_cases he : s1.low q1 = s1.num q1
     ·obtain ⟨H, C, e1, e2⟩ := hlp.2 (by rw [hlo]; exact he)
      obtain ⟨e3, e4⟩ := cut_inv HI.out S q1 HSt.out he H C e1
      rw [e4] at e2
      refine ⟨_, ⟨e2, e3, ⟨HBd.out.1, ?_⟩, HMo.out, HNa.out⟩, ?_⟩
      ·have h1 := HBd.out.2
       rw [HSt.out] at h1
       show (s1.parts ++ [_]).length + S.length ≤ s1.count
       simp at h1 ⊢
       omega
      ·have h1 := HMs.out
       unfold measP at h1 ⊢
       rw [HSt.out, ask_snoc] at h1
       show unvP n s1.num * 600 + askP S < M
       omega
     ·have e2 := hlp.1 (by rw [hlo]; exact he)
      refine ⟨_, ⟨e2, back_inv HI.out S q1 HSt.out he, ⟨HBd.out.1, ?_⟩, HMo.out, HNa.out⟩, ?_⟩
      ·have h1 := HBd.out.2
       rw [HSt.out] at h1
       show s1.parts.length + S.length ≤ s1.count
       simp at h1
       omega
      ·have h1 := HMs.out
       unfold measP at h1 ⊢
       rw [HSt.out, ask_snoc] at h1
       show unvP n s1.num * 600 + askP S < M
       omega
    obtain ⟨s2, hR2, hlt2⟩ := hnew
    have HR2 := Lib.hid hR2
    have HB2 := Lib.hid (HBw1.out.trans hb2)
    clear hlp hb2 hap hlo hR2 HL
    go_wp2_with fail
    go_roundw
    case rel => exact ⟨⟨s2, HR2.out⟩, HB2.out⟩
    case measure =>
     rw [HM.out]
     exact Nat.lt_of_le_of_lt (minOf_le (P := fun k => ∃ s', FolR B f gb bn bl bi n T s.num a w2 s' ∧ measP n s' = k) ⟨s2, HR2.out, rfl⟩) hlt2
   | cons b l =>
    obtain ⟨gl, o, cur, rfl, hcu, hok, hcs⟩ := HL3.out (by simp)
    have hcu1 : W1.heap[gl]? = some (.cells cur 3 (0, 0)) := (HB1.out.block gl (Array.getElem?_eq_some_iff.1 hcu).1).trans hcu
    have e2 : W1.cell? ⟨gl, o, none⟩ = some (.int .i64 (b : Nat)) := by
     rw [cell_of_row W1 gl o cur _ (0, 0) hcu1]
     have h1 := hcs 0 (by simp)
     simpa using h1
    have hba : b ∈ adjP T q1 := HI.out.suf (q1, b :: l) (by rw [HSt.out]; simp) b (by simp)
    have hbn : b < n := hadj q1 b hba
    obtain ⟨dd, rfl⟩ : ∃ dd, cl = dd + 1 := ⟨cl - 1, by simp at hl1; omega⟩
    have hl4 : l.length ≤ dd := by simp at hl1; omega
    have hl5 : dd ≤ 9223372036854775806 := by unfold maxLen at hl2; omega
    have hfv := HV.out.later HB1.out
    have HV1 := Lib.hid hfv
    have HE0 := Lib.hid e0
    have hsk := hfv.stk
    rw [show (Q ++ [(q1, (.slice (some ⟨gl, o, none⟩) (b :: l).length (dd + 1) : Value))]).length = Q.length + 1 by simp] at hsk
    have f1 : W1.frozen? ⟨g6, m * 2 + 1, none⟩ = false := hsk.frozenAt _
    clear hsk
    have HCs : RowKit.Hid (∀ j, j < l.length → cur[o + 1 + j]? = some (.int .i64 ((l.getD j 0 : Nat) : Int))) := Lib.hid (fun j hj => by
     have h1 := hcs (j + 1) (by simp; omega)
     rw [show o + 1 + j = o + (j + 1) by omega]
     simpa using h1)
    have HCu := Lib.hid hcu1
    have HOk := Lib.hid hok
    clear hfv hcs hcu hcu1 hok hba
    go_upto_region 6 with fail
    go_cut [5] (fun s5 wx => s5 = .int .i64 (b : Nat) ∧ FinW wx B f gb bn bl bi n T { s1 with stack := S ++ [(q1, l)] } ∧ wx.cell? ⟨g6, m * 2, none⟩ = some (.int .i64 (q1 : Nat)) ∧ Below B W1 wx)
    case first =>
     have hpop : ∀ v, Lies W1 (OkB (fun _ => True) bn bl vh) v l → FinW (W1.setCell ⟨g6, m * 2 + 1, none⟩ v) B f gb bn bl bi n T { s1 with stack := S ++ [(q1, l)] } := fun v hv => by
      have h1 := HV1.out.popLeft HSt.out v hv
      rw [HMq.out] at h1
      exact ⟨_, _, _, _, _, h1⟩
     have HPop := Lib.hid hpop
     have hg6 : B ≤ g6 := (HV1.out.stk.lt g6 rfl).1
     have HBs : RowKit.Hid (∀ v, Below B W1 (W1.setCell ⟨g6, m * 2 + 1, none⟩ v)) := Lib.hid (fun v => (Below.refl B W1).setCell (p := ⟨g6, m * 2 + 1, none⟩) hg6 v)
     have HCe : RowKit.Hid (∀ v, (W1.setCell ⟨g6, m * 2 + 1, none⟩ v).cell? ⟨g6, m * 2, none⟩ = some (.int .i64 (q1 : Nat))) := Lib.hid (fun v => by
      rw [World.cell?_setCell_other _ _ _ _ (fun e => by injection e with _ e _; omega)]
      exact HE0.out)
     clear hpop hg6
     by_cases hd : dd = 0
     ·subst hd
      obtain rfl : l = [] := List.eq_nil_of_length_eq_zero (by omega)
      go_wp2_with fail
      go_meet
      exact ⟨rfl, HPop.out _ ⟨_, 0, rfl, Nat.le_refl _, Nat.zero_le _, fun h => absurd rfl h⟩, HCe.out _, HBs.out _⟩
     ·go_wp2_with fail
      go_meet
      exact ⟨rfl, HPop.out _ ⟨_, dd, rfl, hl4, by unfold maxLen; omega, fun _ => ⟨gl, o + 1, cur, rfl, HCu.out, HOk.out, HCs.out⟩⟩, HCe.out _, HBs.out _⟩
    case rest =>
     obtain ⟨rfl, hw3, e9, hb3⟩ := hcut
     obtain ⟨W3, rfl⟩ : ∃ q, q = wc := ⟨_, rfl⟩
     have HW3 := Lib.hid hw3
     have HB3 := Lib.hid (HBw1.out.trans hb3)
     obtain ⟨vh3, vs3, vp3, qs3, ps3, hv3⟩ := hw3
     have HV3 := Lib.hid hv3
     have c1 := hv3.box.cell 1 rfl
     obtain ⟨nb, hnb⟩ : ∃ k, s1.num b = k := ⟨_, rfl⟩
     have e4 := num_cell hv3.num hbn
     dsimp only at e4
     rw [hnb] at e4
     have HNb := Lib.hid hnb
     have HE9 := Lib.hid e9
     have HE4 := Lib.hid e4
     clear hb3 hv3 hnb e9 e0 e1 e2 f1
     by_cases hz : nb = 0
     ·subst hz
      have hal : (adjP T b).length ≤ 500 := by
       have h1 : (adjP T b).Nodup := (all_sorted _).imp (fun h => Nat.ne_of_lt h)
       have h2 := nodup_few (m := List.range n) h1 (fun y hy => List.mem_range.2 (hadj b y hy))
       rw [List.length_range] at h2
       omega
      have hun := unv_less n s1.num b (s1.count + 1) hbn HNb.out (by omega)
      have HEn := Lib.hid (enter_any HW3.out (hT.below HB3.out) (Nat.le_trans hBw HB3.out.size) b hbn (by have := HBd.out.1; show s1.count ≤ _; omega) (by show s1.held.length ≤ _; omega) (by
       show (S ++ [(q1, l)]).length ≤ _
       have h1 := HSt.out
       have h2 := congrArg List.length h1
       rw [List.length_append] at h2 ⊢
       simp at h2 ⊢
       omega))
      go_wp2_with fail
      refine HEn.out.mono ?_
      rintro e w2 ⟨rfl, hw2, hb2⟩
      have hR2 : FolR B f gb bn bl bi n T s.num a w2 (enterP (adjP T) s1 (S ++ [(q1, l)]) b) := by
       have hup : ∀ y, s1.num y ≠ 0 → updP s1.num b (s1.count + 1) y ≠ 0 := fun y hy => by
        by_cases e : y = b
        ·rw [e, updP_same]
         omega
        ·rw [updP_other _ e]
         exact hy
       exact ⟨hw2, down_inv HI.out hadj S q1 b l HSt.out HNb.out, bnd_enter HBd.out (by rw [HSt.out]; simp) hbn HNb.out, fun y hy => hup y (HMo.out y hy), hup a HNa.out⟩
      have hlt2 : measP n (enterP (adjP T) s1 (S ++ [(q1, l)]) b) < M := by
       have h1 := HMs.out
       unfold measP at h1 ⊢
       rw [HSt.out, ask_snoc] at h1
       show unvP n (updP s1.num b (s1.count + 1)) * 600 + askP ((S ++ [(q1, l)]) ++ [(b, adjP T b)]) < M
       rw [ask_snoc, ask_snoc]
       simp at h1 ⊢
       omega
      have HR2 := Lib.hid hR2
      have HB2 := Lib.hid (HB3.out.trans hb2)
      clear hw2 hb2 hR2 HEn hal hun
      go_wp2_with fail
      go_roundw
      case rel => exact ⟨⟨_, HR2.out⟩, HB2.out⟩
      case measure =>
       rw [HM.out]
       exact Nat.lt_of_le_of_lt (minOf_le (P := fun k => ∃ s', FolR B f gb bn bl bi n T s.num a w2 s' ∧ measP n s' = k) ⟨_, HR2.out, rfl⟩) hlt2
     ·have hzb : ((nb : Int) == 0) = false := by
       rw [beq_eq_false_iff_ne]
       omega
      have c5 := HV3.out.box.cell 5 rfl
      have d5 : W3.cell? ⟨bi, b, none⟩ = some (.bool (decide (b ∈ s1.held))) := HV3.out.is.cell b (isL_at _ hbn)
      have HIl := Lib.hid (look_inv HI.out S q1 b l HSt.out (by rw [HNb.out]; exact hz))
      have HBl : RowKit.Hid (BndP n (lookP s1 (S ++ [(q1, l)]) q1 b)) := Lib.hid ⟨HBd.out.1, by
       have h1 := HBd.out.2
       rw [HSt.out] at h1
       show s1.parts.length + (S ++ [(q1, l)]).length ≤ s1.count
       simp at h1 ⊢
       omega⟩
      have HMl : RowKit.Hid (measP n (lookP s1 (S ++ [(q1, l)]) q1 b) < M) := Lib.hid (by
       have h1 := HMs.out
       unfold measP at h1 ⊢
       rw [HSt.out, ask_snoc] at h1
       show unvP n s1.num * 600 + askP (S ++ [(q1, l)]) < M
       rw [ask_snoc]
       simp at h1 ⊢
       omega)
      by_cases hh2 : b ∈ s1.held
      ·rw [decide_eq_true hh2] at d5
       obtain ⟨lx, hlx⟩ : ∃ k, s1.low q1 = k := ⟨_, rfl⟩
       have e5 := num_cell HV3.out.low hxn
       dsimp only at e5
       rw [hlx] at e5
       have HE5 := Lib.hid e5
       obtain ⟨z, hzz⟩ : ∃ z, min lx nb = z := ⟨_, rfl⟩
       have hmin : min (lx : Int) (nb : Int) = (z : Int) := by omega
       have HW4 : RowKit.Hid (FinW (W3.setCell ⟨bl, q1, none⟩ (.int .i64 (z : Nat))).drew B f gb bn bl bi n T (lookP s1 (S ++ [(q1, l)]) q1 b)) := Lib.hid (by
        have h1 := HV3.out.setLow q1 z
        have h2 := h1.later (Below.drew (Below.refl _ _))
        have e : lookP s1 (S ++ [(q1, l)]) q1 b = ⟨s1.num, updP s1.low q1 z, s1.count, s1.held, S ++ [(q1, l)], s1.parts⟩ := by
         unfold lookP
         rw [if_pos hh2, hlx, HNb.out, hzz]
        rw [e]
        exact ⟨_, _, _, _, _, h2⟩)
       have HB4 : RowKit.Hid (Below B w (W3.setCell ⟨bl, q1, none⟩ (.int .i64 (z : Nat))).drew) := Lib.hid ((HB3.out.setCell (p := ⟨bl, q1, none⟩) HV3.out.low4.2.2.1 _).drew)
       have HS : RowKit.Hid (∀ w', Below W3.heap.size W3 w' → w'.cell? ⟨f, 2, none⟩ = some (.slice (some ⟨bl, 0, none⟩) n n) ∧ w'.cell? ⟨f, 1, none⟩ = some (.slice (some ⟨bn, 0, none⟩) n n) ∧ w'.cell? ⟨g6, m * 2, none⟩ = some (.int .i64 (q1 : Nat)) ∧ w'.cell? ⟨bl, q1, none⟩ = some (.int .i64 (lx : Nat)) ∧ w'.cell? ⟨bn, b, none⟩ = some (.int .i64 (nb : Nat)) ∧ w'.frozen? ⟨bl, q1, none⟩ = false ∧ Below W3.heap.size W3 w') := Lib.hid (fun w' hb => ⟨(HV3.out.box.later hb).cell 2 rfl, (HV3.out.box.later hb).cell 1 rfl, cell_later hb HE9.out, cell_later hb HE5.out, cell_later hb HE4.out, (HV3.out.low.later hb).frozen q1, hb⟩)
       clear e5 hlx hzz
       go_wp2_with fail
       refine wpk HS [27] (by kernel_rfl) fun hB0 hS0 => ?_
       refine wfr 0 (v := ?_) rfl ?_ ?_
       rotate_left
       ·intro w' hw';go_simp;try with_reducible rfl
       try simp only [Act.put, sq]
       refine wfr 1 (v := ?_) rfl ?_ ?_
       rotate_left
       ·intro w' hw';go_simp;try with_reducible rfl
       try simp only [Act.put, sq]
       refine wfr 2 (v := ?_) rfl ?_ ?_
       rotate_left
       ·intro w' hw';go_simp;try with_reducible rfl
       try simp only [Act.put, sq]
       refine wtk 3 28 (v := ?_) rfl ?_ hS0 ?_
       rotate_left
       ·intro w' hw';(try dsimp only at hw');go_simp;try with_reducible rfl
       try simp only [Act.put, sq]
       refine wfr 4 (v := ?_) rfl ?_ ?_
       rotate_left
       ·intro w' hw';go_simp;try with_reducible rfl
       try simp only [Act.put, sq]
       refine wfr 5 (v := ?_) rfl ?_ ?_
       rotate_left
       ·intro w' hw';go_simp;try with_reducible rfl
       try simp only [Act.put, sq]
       refine wfr 6 (v := ?_) rfl ?_ ?_
       rotate_left
       ·intro w' hw';go_simp;try with_reducible rfl
       try simp only [Act.put, sq]
       refine wtk 7 28 (v := ?_) rfl ?_ hS0 ?_
       rotate_left
       ·intro w' hw';(try dsimp only at hw');go_simp;try with_reducible rfl
       try simp only [Act.put, sq]
       refine wfr 8 (v := ?_) rfl ?_ ?_
       rotate_left
       ·intro w' hw';go_simp;try with_reducible rfl
       try simp only [Act.put, sq]
       refine wfr 9 (v := ?_) rfl ?_ ?_
       rotate_left
       ·intro w' hw';go_simp;try with_reducible rfl
       try simp only [Act.put, sq]
       refine wfr 10 (v := ?_) rfl ?_ ?_
       rotate_left
       ·intro w' hw';go_simp;try with_reducible rfl
       try simp only [Act.put, sq]
       refine wtk 11 28 (v := ?_) rfl ?_ hS0 ?_
       rotate_left
       ·intro w' hw';(try dsimp only at hw');go_simp;try with_reducible rfl
       try simp only [Act.put, sq]
       refine wfr 12 (v := ?_) rfl ?_ ?_
       rotate_left
       ·intro w' hw';go_simp;try with_reducible rfl
       try simp only [Act.put, sq]
       refine wfr 13 (v := ?_) rfl ?_ ?_
       rotate_left
       ·intro w' hw';go_simp;try with_reducible rfl
       try simp only [Act.put, sq]
       refine wfr 14 (v := ?_) rfl ?_ ?_
       rotate_left
       ·intro w' hw';go_simp;try with_reducible rfl
       try simp only [Act.put, sq]
       refine wtk 15 28 (v := ?_) rfl ?_ hS0 ?_
       rotate_left
       ·intro w' hw';(try dsimp only at hw');go_simp;try with_reducible rfl
       try simp only [Act.put, sq]
       refine wfr 16 (v := ?_) rfl ?_ ?_
       rotate_left
       ·intro w' hw';go_simp;try with_reducible rfl
       try simp only [Act.put, sq]
       refine wtk 17 28 (v := ?_) rfl ?_ hS0 ?_
       rotate_left
       ·intro w' hw';(try dsimp only at hw');go_simp;try with_reducible rfl
       try simp only [Act.put, sq]
       refine wfr 18 (v := ?_) rfl ?_ ?_
       rotate_left
       ·intro w' hw';go_simp;try with_reducible rfl
       try simp only [Act.put, sq]
       refine wfr 19 (v := ?_) rfl ?_ ?_
       rotate_left
       ·intro w' hw';go_simp;try with_reducible rfl
       try simp only [Act.put, sq]
       refine wfr 20 (v := ?_) rfl ?_ ?_
       rotate_left
       ·intro w' hw';go_simp;try with_reducible rfl
       try simp only [Act.put, sq]
       refine wtk 21 28 (v := ?_) rfl ?_ hS0 ?_
       rotate_left
       ·intro w' hw';(try dsimp only at hw');go_simp;try with_reducible rfl
       try simp only [Act.put, sq]
       refine won 22 rfl fun K hK => ?_
       go_simp
       refine hK.out _ _ (fun _ h => h) ?_
       clear hK K
       try simp only [Act.put, sq]
       refine won 23 rfl fun K hK => ?_
       go_simp
       refine hK.out _ _ (fun _ h => h) ?_
       clear hK K
       try simp only [Act.put, sq]
       refine won 24 rfl fun K hK => ?_
       go_simp
       refine hK.out _ _ (fun _ h => h) ?_
       clear hK K
       try simp only [Act.put, sq]
       refine won 25 rfl fun K hK => ?_
       go_simp
       refine hK.out _ _ (fun _ h => h) ?_
       clear hK K
       try simp only [Act.put, sq]
       refine won 26 rfl fun K hK => ?_
       go_simp
       refine hK.out _ _ (fun _ h => h) ?_
       clear hK K
       try simp only [Act.put, sq]
       refine won 27 rfl fun K hK => ?_
       go_simp
       refine hK.out _ _ (fun h => absurd h (by decide)) ?_
       clear hK K
       try simp only [Act.put, sq]
       refine wpAnyM_done (by kernel_rfl) ?_ _
       try simp only [Act.put, sq]
       go_wp2_with fail
       go_roundw
       case rel => exact ⟨⟨_, HW4.out, HIl.out, HBl.out, HMo.out, HNa.out⟩, HB4.out⟩
       case measure =>
        rw [HM.out]
        exact Nat.lt_of_le_of_lt (minOf_le (P := fun k => ∃ s', FolR B f gb bn bl bi n T s.num a _ s' ∧ measP n s' = k) ⟨_, ⟨HW4.out, HIl.out, HBl.out, HMo.out, HNa.out⟩, rfl⟩) HMl.out
      ·rw [decide_eq_false hh2] at d5
       have HW4 : RowKit.Hid (FinW W3 B f gb bn bl bi n T (lookP s1 (S ++ [(q1, l)]) q1 b)) := Lib.hid (by
        have e : lookP s1 (S ++ [(q1, l)]) q1 b = { s1 with stack := S ++ [(q1, l)] } := by
         unfold lookP
         rw [if_neg hh2]
        rw [e]
        exact HW3.out)
       go_wp2_with fail
       go_roundw
       case rel => exact ⟨⟨_, HW4.out, HIl.out, HBl.out, HMo.out, HNa.out⟩, HB3.out⟩
       case measure =>
        rw [HM.out]
        exact Nat.lt_of_le_of_lt (minOf_le (P := fun k => ∃ s', FolR B f gb bn bl bi n T s.num a W3 s' ∧ measP n s' = k) ⟨_, ⟨HW4.out, HIl.out, HBl.out, HMo.out, HNa.out⟩, rfl⟩) HMl.out
end Go.Proofs.YtldcbapjiflblaaDoor
