/-
  Layer 20 (part): a node is left, walked. No conditions.
-/
import Derived.Test.YtldcbapjiflblaaDoorPxGrC
import Derived.Test.YtldcbapjiflblaaDoorPxFiE
import Derived.Test.YtldcbapjiflblaaDoorPxFiB
import Derived.Test.YtldcbapjiflblaaDoorPxFiC
namespace Go.Proofs.YtldcbapjiflblaaDoor
open Go.RowKit Go.Lib
theorem own_same9 (p : Option Addr) (m k c : Nat) : (Value.slice p m c).ownBlock = (Value.slice p k c).ownBlock := own_same p m k c
theorem sort_len9 (L : List Nat) : (sortP L).length = L.length := sortP_len L
theorem FinV.sameIs {X : Nat → Prop} {w : World} {B f gb bn bl bi n : Nat} {T : List (List Nat)} {s : StP} {I J : List Nat} {vh vs vp : Value} {qs : List (Nat × Value)} {ps : List Value} (h : FinV X w B f gb bn bl bi n T s I vh vs vp qs ps) (hI : IsL n I = IsL n J) : FinV X w B f gb bn bl bi n T s J vh vs vp qs ps :=
 ⟨h.box, h.num, h.low, by rw [← hI]; exact h.is, h.held, h.stk, h.par, h.path, h.lefts, h.parts, h.ne, h.gr, h.low4⟩
theorem info_slI : (Tryd.prog.info? 29).map (fun i => (i.zero, i.size, i.bytes)) = some (some (.slice none 0 0), 1, 24) := by kernel_rfl
theorem lower_nil (s : StP) (a : Nat) : lowerP s [] a = s.low := rfl
theorem num_cell {w : World} {b n a : Nat} {g : Nat → Nat} (h : Blk w b 3 (vnats (NumL n g))) (ha : a < n) : w.cell? ⟨b, a, none⟩ = some (.int .i64 ((g a : Nat) : Int)) := by
 have h1 := vnats_at (NumL n g) a (by rw [numL_len]; exact ha)
 rw [numL_at g ha] at h1
 exact h.cell a h1
def LeftP (n : Nat) (s : StP) (S : List (Nat × List Nat)) (a : Nat) (R : StP → Prop) : Prop := (lowerP s S a a ≠ s.num a → R (backP s S a)) ∧ (lowerP s S a a = s.num a → ∃ H C, s.held = H ++ a :: C ∧ R ⟨s.num, lowerP s S a, s.count, H, S, s.parts ++ [riseP n (a :: C)]⟩)
set_option maxRecDepth 100000 in
set_option maxHeartbeats 4000000 in
theorem leave_any {w : World} {B f gb bn bl bi n : Nat} {T : List (List Nat)} {s : StP} (h : FinW w B f gb bn bl bi n T s) (hBw : B ≤ w.heap.size) (S : List (Nat × List Nat)) (l : List Nat) (a : Nat) (hs : s.stack = S ++ [(a, l)]) (ha : a < n) (hm : a ∈ s.held) (hnd : s.held.Nodup) (hlt : ∀ x ∈ s.held, x < n) (hpS : ∀ x ∈ S, x.1 < n) (hh : s.held.length ≤ 10000) (hst : s.stack.length ≤ 10000) (hpa : s.parts.length ≤ 10000) :
  Calls Tryd.prog 30 #[.pointer (some ⟨f, 0, none⟩), .int .i64 (a : Nat)] w fun e w' => e = .returned (.tuple #[]) ∧ LeftP n s S a (FinW w' B f gb bn bl bi n T) ∧ Below B w w' := by
 obtain ⟨vh, vs, vp, qs, ps, hv⟩ := h
 have hqe : ∃ Q q, qs = Q ++ [q] := by
  rcases List.eq_nil_or_concat qs with e | ⟨Q, q, e⟩
  ·have h1 := hv.path
   rw [e, hs] at h1
   simp at h1
  ·exact ⟨Q, q, by rw [e, List.concat_eq_append]⟩
 obtain ⟨Q, q, rfl⟩ := hqe
 have hstk := hv.stk
 rw [show (Q ++ [q]).length = Q.length + 1 by simp] at hstk
 obtain ⟨p6, c6, rfl⟩ := owns_form hstk
 have hmc : Q.length + 1 ≤ c6 := by
  rcases hstk.2 with ⟨-, h0⟩ | ⟨g, cap, cur, e0, -, -, h1, -⟩
  ·omega
  ·injection e0 with _ _ q3
   omega
 have hcm : c6 ≤ 9223372036854775807 := by
  rcases hstk.2 with ⟨-, h0⟩ | ⟨g, cap, cur, e0, -, -, -, h2, -⟩
  ·omega
  ·injection e0 with _ _ q3
   unfold maxLen at h2
   omega
 have HLw : RowKit.Hid (B ≤ f ∧ B ≤ bn ∧ B ≤ bl ∧ B ≤ bi) := Lib.hid hv.low4
 have HV0 := Lib.hid hv
 have HV1 := Lib.hid (hv.pop hs)
 have HPa := Lib.hid hv.path
 have hQS : Q.map (·.1) = S.map (·.1) := by
  have h1 := hv.path
  rw [hs, List.map_append, List.map_append] at h1
  exact (List.append_inj' h1 rfl).1
 have HQS := Lib.hid hQS
 have hql : Q.length ≤ 10000 := by
  have h1 := congrArg List.length hQS
  rw [List.length_map, List.length_map] at h1
  have h2 := congrArg List.length hs
  rw [List.length_append] at h2
  omega
 have HStk := Lib.hid hstk
 obtain ⟨m, hmQ⟩ : ∃ m, Q.length = m := ⟨_, rfl⟩
 rw [hmQ] at hmc HV1 hql HStk
 have hmc2 : m ≤ c6 := by omega
 have ewm : IntKind.i64.wrap (m : Int) = (m : Int) := by rw [IntKind.wrap_i64]; omega
 have HMq := Lib.hid hmQ
 have HS : RowKit.Hid (∀ w', Below w.heap.size w w' → w'.cell? ⟨f, 6, none⟩ = some (.slice p6 (m + 1) c6) ∧ w'.frozen? ⟨f, 6, none⟩ = false ∧ Below w.heap.size w w') := Lib.hid (fun w' hb => ⟨by have h1 := (HV0.out.box.later hb).cell 6 rfl; rw [HMq.out] at h1; exact h1, (HV0.out.box.later hb).frozen 6, hb⟩)
 have HHe := Lib.hid hs
 clear hv hs hQS hstk hmQ
 go_enter Tryd.func30, Tryd.ntmps30
 go_wp2_with fail
 refine wpk HS [14] (by kernel_rfl) fun hB0 hS0 => ?_
 refine wfr 0 (v := ?_) rfl ?_ ?_
 rotate_left
 ·intro w' hw';go_simp;try with_reducible rfl
 try simp only [Act.put, sq]
 refine wfr 1 (v := ?_) rfl ?_ ?_
 rotate_left
 ·intro w' hw';go_simp;try with_reducible rfl
 try simp only [Act.put, sq]
 refine wfr 2 (v := ?_) rfl ?_ ?_
 rotate_left
 ·intro w' hw';go_simp;try with_reducible rfl
 try simp only [Act.put, sq]
 refine wfr 3 (v := ?_) rfl ?_ ?_
 rotate_left
 ·intro w' hw';go_simp;try with_reducible rfl
 try simp only [Act.put, sq]
 refine wtk 4 15 (v := ?_) rfl ?_ hS0 ?_
 rotate_left
 ·intro w' hw';(try dsimp only at hw');go_simp;try with_reducible rfl
 try simp only [Act.put, sq]
 refine won 5 rfl fun K hK => ?_
 go_simp
 refine hK.out _ _ (fun _ h => h) ?_
 clear hK K
 try simp only [Act.put, sq]
 refine won 6 rfl fun K hK => ?_
 go_simp
 refine hK.out _ _ (fun _ h => h) ?_
 clear hK K
 try simp only [Act.put, sq]
 refine won 7 rfl fun K hK => ?_
 go_simp
 refine hK.out _ _ (fun _ h => h) ?_
 clear hK K
 try simp only [Act.put, sq]
 refine won 8 rfl fun K hK => ?_
 go_simp
 refine hK.out _ _ (fun _ h => h) ?_
 clear hK K
 try simp only [Act.put, sq]
 refine won 9 rfl fun K hK => ?_
 go_simp
 refine hK.out _ _ (fun _ h => h) ?_
 clear hK K
 try simp only [Act.put, sq]
 refine won 10 rfl fun K hK => ?_
 go_simp
 refine hK.out _ _ (fun _ h => h) ?_
 clear hK K
 try simp only [Act.put, sq]
 refine won 11 rfl fun K hK => ?_
 go_simp
 refine hK.out _ _ (fun _ h => h) ?_
 clear hK K
 try simp only [Act.put, sq]
 refine won 12 rfl fun K hK => ?_
 go_simp
 refine hK.out _ _ (fun _ h => h) ?_
 clear hK K
 try simp only [Act.put, sq]
 refine won 13 rfl fun K hK => ?_
 go_simp
 refine hK.out _ _ (fun _ h => h) ?_
 clear hK K
 try simp only [Act.put, sq]
 refine won 14 rfl fun K hK => ?_
 go_simp
 refine hK.out _ _ (fun h => absurd h (by decide)) ?_
 clear hK K
 try simp only [Act.put, sq]
 refine wpAnyM_done (by kernel_rfl) ?_ _
 try simp only [Act.put, sq]
 have hv1 := HV1.out.later (Below.drew (Below.refl _ _))
 have hb1 : Below B w (w.setCell ⟨f, 6, none⟩ (.slice p6 m c6)).drew := ((Below.refl B w).setCell (p := ⟨f, 6, none⟩) HLw.out.1 (.slice p6 m c6)).drew
 obtain ⟨W1, hW1⟩ : ∃ q, (w.setCell ⟨f, 6, none⟩ (.slice p6 m c6)).drew = q := ⟨_, rfl⟩
 rw [hW1] at hv1 hb1 ⊢
 have FV1 := Lib.hid hv1
 have HB1 := Lib.hid hb1
 have q6 := hv1.box.cell 6 rfl
 clear hW1 hv1 hb1 hB0 hS0 HS HV0 HV1 HStk ewm
 go_upto_if 30 with fail
 go_cut [4] (fun s4 wx => s4 = .int .i64 (m : Nat) ∧ FinV (fun _ => True) wx B f gb bn bl bi n T { s with stack := S, low := lowerP s S a } s.held vh (.slice p6 m c6) vp Q ps ∧ Below B w wx)
 case first =>
  rcases List.eq_nil_or_concat S with hS | ⟨S', y, hS⟩
  ·have hQ : Q = [] := by
    have h1 := HQS.out
    rw [hS] at h1
    simpa using h1
   have hm0 : m = 0 := by rw [← HMq.out, hQ]; rfl
   have HLo : RowKit.Hid (lowerP s S a = s.low) := Lib.hid (by rw [hS]; rfl)
   subst hm0
   clear hS hQ
   go_wp2_with fail
   go_meet
   refine ⟨rfl, ?_, HB1.out⟩
   rw [HLo.out]
   exact FV1.out
  ·rw [List.concat_eq_append] at hS
   obtain ⟨Q', q', hQ⟩ : ∃ Q' q', Q = Q' ++ [q'] := by
    rcases List.eq_nil_or_concat Q with e | ⟨Q', q', e⟩
    ·have h1 := HQS.out
     rw [e, hS] at h1
     simp at h1
    ·exact ⟨Q', q', by rw [e, List.concat_eq_append]⟩
   obtain ⟨k, hk⟩ : ∃ k, Q'.length = k := ⟨_, rfl⟩
   have hmk : m = k + 1 := by rw [← HMq.out, hQ, List.length_append, hk]; rfl
   have hqy : q'.1 = y.1 := by
    have h1 := HQS.out
    rw [hQ, hS, List.map_append, List.map_append] at h1
    have h2 := (List.append_inj' h1 rfl).2
    simpa using h2
   obtain ⟨u, hu⟩ : ∃ u, q'.1 = u := ⟨_, rfl⟩
   have hun : u < n := by rw [← hu, hqy]; exact hpS y (by rw [hS]; simp)
   have hst1 := FV1.out.stk
   obtain ⟨g6, hp6⟩ : ∃ g, p6 = some ⟨g, 0, none⟩ := by
    rcases hst1.2 with ⟨e0, h0⟩ | ⟨g, cap, cur, e0, -⟩
    ·rw [hQ, List.length_append] at h0
     simp at h0
    ·injection e0 with q1 _ _
     exact ⟨g, q1⟩
   have c9 : W1.cell? ⟨g6, k * 2, none⟩ = some (.int .i64 (u : Nat)) := by
    have h1 := hst1
    rw [HMq.out, hp6, hmk] at h1
    rw [h1.cellAt (k * 2) (by omega), hQ]
    have e : frC (Q' ++ [q']) = frC Q' ++ frC [q'] := by simp [frC]
    rw [e, List.getElem?_append_right (by rw [frC_len, hk]; exact Nat.le_refl _), frC_len, hk, Nat.sub_self, ← hu]
    rfl
   obtain ⟨lu, hlu⟩ : ∃ x, s.low u = x := ⟨_, rfl⟩
   obtain ⟨la, hla⟩ : ∃ x, s.low a = x := ⟨_, rfl⟩
   have d1 := num_cell FV1.out.low hun
   have d2 := num_cell FV1.out.low ha
   dsimp only at d1 d2
   rw [hlu] at d1
   rw [hla] at d2
   obtain ⟨z, hz⟩ : ∃ z, min lu la = z := ⟨_, rfl⟩
   have hmin : min (lu : Int) (la : Int) = (z : Int) := by omega
   have HLo : RowKit.Hid (lowerP s S a = updP s.low u z) := Lib.hid (by rw [hS, lower_last, ← hqy, hu, hlu, hla, hz])
   have HV9 := Lib.hid (FV1.out.setLow u z)
   have HB9 := Lib.hid (HB1.out.setCell (p := ⟨bl, u, none⟩) HLw.out.2.2.1 (.int .i64 (z : Nat)))
   have HD1 := Lib.hid d1
   have HD2 := Lib.hid d2
   have HFz := Lib.hid (FV1.out.low.frozen u)
   have HS : RowKit.Hid (∀ w', Below W1.heap.size W1 w' → w'.cell? ⟨f, 2, none⟩ = some (.slice (some ⟨bl, 0, none⟩) n n) ∧ w'.cell? ⟨bl, u, none⟩ = some (.int .i64 (lu : Nat)) ∧ w'.cell? ⟨bl, a, none⟩ = some (.int .i64 (la : Nat)) ∧ w'.frozen? ⟨bl, u, none⟩ = false ∧ Below W1.heap.size W1 w') := Lib.hid (fun w' hb => ⟨(FV1.out.box.later hb).cell 2 rfl, cell_later hb HD1.out, cell_later hb HD2.out, (FV1.out.low.later hb).frozen u, hb⟩)
   have ewk : IntKind.i64.wrap (k : Int) = (k : Int) := by rw [IntKind.wrap_i64]; omega
   subst hp6
   subst hmk
   clear hS hQ hk hqy hu hst1 d1 d2 hlu hla hz
   go_wp2_with fail
   refine wpk HS [21] (by kernel_rfl) fun hB0 hS0 => ?_
   refine wfr 0 (v := ?_) rfl ?_ ?_
   rotate_left
   ·intro w' hw';go_simp;try with_reducible rfl
   try simp only [Act.put, sq]
   refine wfr 1 (v := ?_) rfl ?_ ?_
   rotate_left
   ·intro w' hw';go_simp;try with_reducible rfl
   try simp only [Act.put, sq]
   refine wfr 2 (v := ?_) rfl ?_ ?_
   rotate_left
   ·intro w' hw';go_simp;try with_reducible rfl
   try simp only [Act.put, sq]
   refine wtk 3 22 (v := ?_) rfl ?_ hS0 ?_
   rotate_left
   ·intro w' hw';(try dsimp only at hw');go_simp;try with_reducible rfl
   try simp only [Act.put, sq]
   refine wfr 4 (v := ?_) rfl ?_ ?_
   rotate_left
   ·intro w' hw';go_simp;try with_reducible rfl
   try simp only [Act.put, sq]
   refine wfr 5 (v := ?_) rfl ?_ ?_
   rotate_left
   ·intro w' hw';go_simp;try with_reducible rfl
   try simp only [Act.put, sq]
   refine wfr 6 (v := ?_) rfl ?_ ?_
   rotate_left
   ·intro w' hw';go_simp;try with_reducible rfl
   try simp only [Act.put, sq]
   refine wfr 7 (v := ?_) rfl ?_ ?_
   rotate_left
   ·intro w' hw';go_simp;try with_reducible rfl
   try simp only [Act.put, sq]
   refine wtk 8 22 (v := ?_) rfl ?_ hS0 ?_
   rotate_left
   ·intro w' hw';(try dsimp only at hw');go_simp;try with_reducible rfl
   try simp only [Act.put, sq]
   refine wfr 9 (v := ?_) rfl ?_ ?_
   rotate_left
   ·intro w' hw';go_simp;try with_reducible rfl
   try simp only [Act.put, sq]
   refine wfr 10 (v := ?_) rfl ?_ ?_
   rotate_left
   ·intro w' hw';go_simp;try with_reducible rfl
   try simp only [Act.put, sq]
   refine wtk 11 22 (v := ?_) rfl ?_ hS0 ?_
   rotate_left
   ·intro w' hw';(try dsimp only at hw');go_simp;try with_reducible rfl
   try simp only [Act.put, sq]
   refine wfr 12 (v := ?_) rfl ?_ ?_
   rotate_left
   ·intro w' hw';go_simp;try with_reducible rfl
   try simp only [Act.put, sq]
   refine wfr 13 (v := ?_) rfl ?_ ?_
   rotate_left
   ·intro w' hw';go_simp;try with_reducible rfl
   try simp only [Act.put, sq]
   refine wfr 14 (v := ?_) rfl ?_ ?_
   rotate_left
   ·intro w' hw';go_simp;try with_reducible rfl
   try simp only [Act.put, sq]
   refine wtk 15 22 (v := ?_) rfl ?_ hS0 ?_
   rotate_left
   ·intro w' hw';(try dsimp only at hw');go_simp;try with_reducible rfl
   try simp only [Act.put, sq]
   refine won 16 rfl fun K hK => ?_
   go_simp
   refine hK.out _ _ (fun _ h => h) ?_
   clear hK K
   try simp only [Act.put, sq]
   refine won 17 rfl fun K hK => ?_
   go_simp
   refine hK.out _ _ (fun _ h => h) ?_
   clear hK K
   try simp only [Act.put, sq]
   refine won 18 rfl fun K hK => ?_
   go_simp
   refine hK.out _ _ (fun _ h => h) ?_
   clear hK K
   try simp only [Act.put, sq]
   refine won 19 rfl fun K hK => ?_
   go_simp
   refine hK.out _ _ (fun _ h => h) ?_
   clear hK K
   try simp only [Act.put, sq]
   refine won 20 rfl fun K hK => ?_
   go_simp
   refine hK.out _ _ (fun _ h => h) ?_
   clear hK K
   try simp only [Act.put, sq]
   refine won 21 rfl fun K hK => ?_
   go_simp
   refine hK.out _ _ (fun h => absurd h (by decide)) ?_
   clear hK K
   try simp only [Act.put, sq]
   refine wpAnyM_done (by kernel_rfl) ?_ _
   try simp only [Act.put, sq]
   go_wp2_with fail
   go_meet
   refine ⟨rfl, ?_, HB9.out.drew⟩
   rw [HLo.out]
   exact HV9.out.later (Below.drew (Below.refl _ _))
 case rest =>
  obtain ⟨rfl, hv2, hb2⟩ := hcut
  obtain ⟨W2, rfl⟩ : ∃ q, q = wc := ⟨_, rfl⟩
  have FV2 := Lib.hid hv2
  have HB2 := Lib.hid hb2
  have d1 := num_cell hv2.low ha
  have d2 := num_cell hv2.num ha
  dsimp only at d1 d2
  obtain ⟨la, hla⟩ : ∃ x, lowerP s S a a = x := ⟨_, rfl⟩
  obtain ⟨na, hna⟩ : ∃ x, s.num a = x := ⟨_, rfl⟩
  rw [hla] at d1
  rw [hna] at d2
  have HD1 := Lib.hid d1
  have HD2 := Lib.hid d2
  have HLa := Lib.hid hla
  have HNa := Lib.hid hna
  have HS : RowKit.Hid (∀ w', Below W2.heap.size W2 w' → w'.cell? ⟨f, 2, none⟩ = some (.slice (some ⟨bl, 0, none⟩) n n) ∧ w'.cell? ⟨f, 1, none⟩ = some (.slice (some ⟨bn, 0, none⟩) n n) ∧ w'.cell? ⟨bl, a, none⟩ = some (.int .i64 (la : Nat)) ∧ w'.cell? ⟨bn, a, none⟩ = some (.int .i64 (na : Nat)) ∧ Below W2.heap.size W2 w') := Lib.hid (fun w' hb => ⟨(FV2.out.box.later hb).cell 2 rfl, (FV2.out.box.later hb).cell 1 rfl, cell_later hb HD1.out, cell_later hb HD2.out, hb⟩)
  clear hv2 hb2 d1 d2 hla hna FV1 HB1 q6
  by_cases hne : la = na
  ·subst hne
   obtain ⟨H, C, hHC, haH⟩ := split_at s.held a hm
   have hheld := FV2.out.held
   dsimp only at hheld
   obtain ⟨gh, ch, rfl⟩ := own_one hheld (by rw [hHC, List.length_append, List.length_cons]; omega)
   have hix := indexP_any (B := B) (g := gh) (c := ch) (H := H) (R := C) (a := a) (w := W2.drew) (by rw [← hHC]; exact hheld) haH (by rw [← hHC]; exact hh)
   rw [← hHC] at hix
   obtain ⟨i, hi⟩ : ∃ i, H.length = i := ⟨_, rfl⟩
   obtain ⟨k, hk⟩ : ∃ k, s.held.length = k := ⟨_, rfl⟩
   have hik : k = i + (a :: C).length := by rw [← hk, hHC, List.length_append, hi]
   have hkc : k ≤ ch := by
    rcases hheld.2 with ⟨e0, -⟩ | ⟨g, cap, cur, e0, -, -, h1, -⟩
    ·cases e0
    ·injection e0 with _ _ q3
     rw [hk] at h1
     omega
   rw [hi, hk] at hix
   obtain ⟨D, hD⟩ : ∃ D, a :: C = D := ⟨_, rfl⟩
   have hDl : D.length = k - i := by rw [← hD]; omega
   have hD1 : 1 ≤ D.length := by rw [← hD]; simp
   have hij : i < k := by omega
   have hic : ¬ ch = i := by omega
   have hic2 : i ≤ ch := by omega
   rw [hD] at hHC
   have hcl := cloneP_any (w := W2.drew) (g := gh) (o := i) (c := ch - i) (C := D) (fun j hj => by
    have h1 := hheld.cellAt (i + j) (by omega)
    have h2 := vnats_at s.held (i + j) (by omega)
    rw [show s.held.getD (i + j) 0 = D.getD j 0 by rw [hHC]; simp only [List.getD_eq_getElem?_getD]; rw [List.getElem?_append_right (by omega), show i + j - H.length = j by omega]] at h2
    exact h1.trans h2) (by omega)
   rw [hDl] at hcl
   have c4 := FV2.out.box.cell 4 rfl
   try dsimp only at c4
   rw [hk] at c4
   have HC4 := Lib.hid c4
   have HIx := Lib.hid hix
   have HCl := Lib.hid hcl
   have HHC := Lib.hid hHC
   have HDl := Lib.hid hDl
   have HHi := Lib.hid hi
   have HKk := Lib.hid hk
   have HDD := Lib.hid hD
   have FV2d := Lib.hid ((FV2.out.now).later (Below.drew (Below.refl _ _)))
   have HNb : RowKit.Hid (bn < W2.heap.size ∧ bl < W2.heap.size ∧ ∀ g, (Value.slice (some ⟨gh, 0, none⟩) s.held.length ch).ownBlock = some g → g < W2.heap.size) := Lib.hid ⟨FV2.out.num.lt, FV2.out.low.lt, fun g e => (FV2.out.held.lt g e).2⟩
   clear hheld hix hcl hk hi hik hHC hD hDl c4
   go_wp2_with fail
   refine wpk HS [] (by kernel_rfl) fun hB0 hS0 => ?_
   refine wfr 0 (v := ?_) rfl ?_ ?_
   rotate_left
   ·intro w' hw';go_simp;try with_reducible rfl
   try simp only [Act.put, sq]
   refine wfr 1 (v := ?_) rfl ?_ ?_
   rotate_left
   ·intro w' hw';go_simp;try with_reducible rfl
   try simp only [Act.put, sq]
   refine wfr 2 (v := ?_) rfl ?_ ?_
   rotate_left
   ·intro w' hw';go_simp;try with_reducible rfl
   try simp only [Act.put, sq]
   refine wtk 3 15 (v := ?_) rfl ?_ hS0 ?_
   rotate_left
   ·intro w' hw';(try dsimp only at hw');go_simp;try with_reducible rfl
   try simp only [Act.put, sq]
   refine wfr 4 (v := ?_) rfl ?_ ?_
   rotate_left
   ·intro w' hw';go_simp;try with_reducible rfl
   try simp only [Act.put, sq]
   refine wfr 5 (v := ?_) rfl ?_ ?_
   rotate_left
   ·intro w' hw';go_simp;try with_reducible rfl
   try simp only [Act.put, sq]
   refine wtk 6 15 (v := ?_) rfl ?_ hS0 ?_
   rotate_left
   ·intro w' hw';(try dsimp only at hw');go_simp;try with_reducible rfl
   try simp only [Act.put, sq]
   refine wfr 7 (v := ?_) rfl ?_ ?_
   rotate_left
   ·intro w' hw';go_simp;try with_reducible rfl
   try simp only [Act.put, sq]
   refine wfr 8 (v := ?_) rfl ?_ ?_
   rotate_left
   ·intro w' hw';go_simp;try with_reducible rfl
   try simp only [Act.put, sq]
   refine wfr 9 (v := ?_) rfl ?_ ?_
   rotate_left
   ·intro w' hw';go_simp;try with_reducible rfl
   try simp only [Act.put, sq]
   refine wtk 10 15 (v := ?_) rfl ?_ hS0 ?_
   rotate_left
   ·intro w' hw';(try dsimp only at hw');go_simp;try with_reducible rfl
   try simp only [Act.put, sq]
   refine won 11 rfl fun K hK => ?_
   go_simp
   refine hK.out _ _ (fun _ h => h) ?_
   clear hK K
   try simp only [Act.put, sq]
   refine won 12 rfl fun K hK => ?_
   go_simp
   refine hK.out _ _ (fun _ h => h) ?_
   clear hK K
   try simp only [Act.put, sq]
   refine won 13 rfl fun K hK => ?_
   go_simp
   refine hK.out _ _ (fun _ h => h) ?_
   clear hK K
   try simp only [Act.put, sq]
   refine won 14 rfl fun K hK => ?_
   go_simp
   refine hK.out _ _ (fun _ h => h) ?_
   clear hK K
   try simp only [Act.put, sq]
   refine wpAnyM_done (by kernel_rfl) ?_ _
   try simp only [Act.put, sq]
   have hb0 := hB0
   clear hS0 HS hB0
   obtain ⟨W3, hW3⟩ : ∃ q, W2.drew = q := ⟨_, rfl⟩
   have hz3 : W3.heap.size = W2.heap.size := by rw [← hW3]; rfl
   have HZ3 := Lib.hid hz3
   rw [hW3] at HIx HCl FV2d hb0 ⊢
   have c4 : W3.cell? ⟨f, 4, none⟩ = some (.slice (some ⟨gh, 0, none⟩) k ch) := cell_later hb0 HC4.out
   have HB3 := Lib.hid (HB2.out.trans (hb0.mono (Nat.le_trans hBw HB2.out.size)))
   clear hW3 hz3 hb0
   go_wp2_with fail
   refine HIx.out.mono ?_
   rintro e w4 ⟨rfl, hw⟩
   subst hw
   clear HIx
   go_wp2_with fail
   refine HCl.out.mono ?_
   rintro e w5 ⟨v5, rfl, hr5, hb5⟩
   rw [HZ3.out] at hr5
   have FV5 := Lib.hid (FV2d.out.later hb5)
   have HB5 := Lib.hid (HB3.out.trans (hb5.mono (Nat.le_trans hBw HB3.out.size)))
   obtain ⟨gl, cl, rfl⟩ := own_one hr5 (by omega)
   have HR5 := Lib.hid hr5
   have c4' := cell_later hb5 c4
   have f4' := FV5.out.box.frozen 4
   have hv6 := FV5.out.fewer (H := H) (R := D) rfl HHC.out
   rw [HHi.out] at hv6
   have hr6 := owns_store hr5 FV5.out.box (by decide) 4 (.slice (some ⟨gh, 0, none⟩) i ch)
   have HV6 := Lib.hid hv6
   have HR6 := Lib.hid hr6
   have HB6 := Lib.hid (HB5.out.setCell (p := ⟨f, 4, none⟩) HLw.out.1 (.slice (some ⟨gh, 0, none⟩) i ch))
   clear c4 hr5 hb5 hv6 hr6 HCl FV2d
   go_upto_region 9 with fail
   obtain ⟨W6, hW6⟩ : ∃ q, w5.setCell ⟨f, 4, none⟩ (.slice (some ⟨gh, 0, none⟩) i ch) = q := ⟨_, rfl⟩
   rw [hW6] at HV6 HR6 HB6 ⊢
   clear hW6 c4' f4'
   obtain ⟨r, hr⟩ : ∃ r, k - i = r := ⟨_, rfl⟩
   rw [hr] at HR6 ⊢
   have HDr : RowKit.Hid (D.length = r) := Lib.hid (by rw [HDl.out, hr])
   have hr1 : r ≤ 10000 := by have := HKk.out; omega
   have hr0 : 0 < r := by omega
   clear hr
   go_wp2_with fail
   go_loopw [100] (fun x wx => ∃ j : Nat, j ≤ r ∧ x = .int .i64 j ∧ FinV (fun g => g < W2.heap.size) wx B f gb bn bl bi n T _ (s.held.filter fun x => decide (x ∉ D.take j)) (.slice (some ⟨gh, 0, none⟩) i ch) (.slice p6 m c6) vp Q ps ∧ wx.ownsRow W2.heap.size 3 1 (.slice (some ⟨gl, 0, none⟩) r cl) r (vnats D) ∧ Below B w wx) (fun x _ => r - (RowKit.intOf x).toNat)
   case atStart => exact ⟨0, Nat.zero_le _, rfl, by rw [show (s.held.filter fun x => decide (x ∉ D.take 0)) = s.held by simp]; exact HV6.out, HR6.out, HB6.out⟩
   case round =>
    obtain ⟨j, hj, rfl, hv, hrow, hbw⟩ := hrel
    by_cases hlt2 : j < r
    ·have hjD : j < D.length := by rw [HDr.out]; exact hlt2
     obtain ⟨x, hx⟩ : ∃ x, D.getD j 0 = x := ⟨_, rfl⟩
     have hxD : x ∈ D := by rw [← hx, show D.getD j 0 = D[j] by simp [hjD]]; exact List.getElem_mem _
     have hxn : x < n := hlt x (by rw [HHC.out]; exact List.mem_append_right _ hxD)
     have c1 : wr.cell? ⟨gl, j, none⟩ = some (.int .i64 (x : Nat)) := by rw [hrow.cellAt j (by omega), vnats_at D j hjD, hx]
     have c5 := hv.box.cell 5 rfl
     have d6 := hv.is.cell x (isL_at _ hxn)
     have d7 := hv.is.frozen x
     have hJ : (IsL n (s.held.filter fun y => decide (y ∉ D.take j))).set x (.bool false) = IsL n (s.held.filter fun y => decide (y ∉ D.take (j + 1))) := by
      rw [isL_out]
      refine isL_same fun y _ => ?_
      have htk : D.take (j + 1) = D.take j ++ [x] := by
       rw [List.take_add_one, ← hx]
       simp [hjD]
      simp only [List.mem_filter, htk, List.mem_append, List.mem_singleton, decide_eq_true_eq, not_or]
      exact ⟨fun q => ⟨q.1.1, q.1.2, q.2⟩, fun q => ⟨⟨q.1, q.2.1⟩, q.2.2⟩⟩
     have HV7 := Lib.hid (hv.setIs x false _ hJ)
     have HR7 := Lib.hid (owns_store hrow hv.is (by decide) x (.bool false))
     have HB7 := Lib.hid (hbw.setCell (p := ⟨bi, x, none⟩) HLw.out.2.2.2 (.bool false))
     clear hv hrow hbw hJ hx hxD
     go_wp2_with fail
     go_roundw
     case rel => exact ⟨j + 1, by omega, by go_num, HV7.out, HR7.out, HB7.out⟩
     case measure => simp [RowKit.intOf]; omega
    ·have hjr : j = r := by omega
     subst hjr
     have hIH : IsL n (s.held.filter fun y => decide (y ∉ D.take j)) = IsL n H := isL_same fun y _ => by
      rw [List.take_of_length_le (by rw [HDr.out]; exact Nat.le_refl _)]
      simp only [List.mem_filter, decide_eq_true_eq]
      have hd := hnd
      rw [HHC.out, List.nodup_append] at hd
      rw [HHC.out, List.mem_append]
      exact ⟨fun q => q.1.resolve_right q.2, fun q => ⟨.inl q, fun q2 => hd.2.2 y q y q2 rfl⟩⟩
     have hv8 := hv.sameIs hIH
     have hsr := sort_any (B := W2.heap.size) (g := gl) (c := cl) (C := D) (w := wr) (by rw [HDr.out]; exact hrow) (by rw [HDr.out]; exact hr1)
     rw [HDr.out] at hsr
     have HSr := Lib.hid hsr
     have hgl : W2.heap.size ≤ gl := (hrow.lt gl rfl).1
     have HBk : RowKit.Hid (∃ cs, Blk wr gl 3 cs) := Lib.hid (by
      rcases hrow.2 with ⟨e0, -⟩ | ⟨g, cap, cur, e0, -, hw, -⟩
      ·cases e0
      ·injection e0 with q1 _ _
       injection q1 with q1
       injection q1 with q1 _ _
       subst q1
       exact ⟨cur.toList, by show wr.heap[gl]? = _; rw [hw]⟩)
     obtain ⟨p7, c7, rfl⟩ := owns_form hv8.par
     have HV8 := Lib.hid hv8
     have HB8 := Lib.hid hbw
     have hpl : ps.length ≤ 10000 := by
      have h1 : ps.length = s.parts.length := hv8.parts.1
      omega
     obtain ⟨i0, hj0, hz0, hz1, hz2⟩ := info_parts info_slI
     clear hv hrow hbw hIH hv8 hsr
     go_wp2_with fail
     refine HSr.out.mono ?_
     rintro e w8 ⟨rfl, hg8, hr8⟩
     have hNb2 : ∀ g, (Value.slice (some ⟨gh, 0, none⟩) i ch).ownBlock = some g → g < W2.heap.size := fun g e => HNb.out.2.2 g (by rw [own_same (some ⟨gh, 0, none⟩) s.held.length i ch]; exact e)
     obtain ⟨cs8, hbk⟩ := HBk.out
     have hv9 := (HV8.out.apart hbk ⟨HNb.out.1, HNb.out.2.1, hNb2⟩ hgl hg8).weak
     have HB9 := Lib.hid (HB8.out.trans (below_at hg8 (Nat.le_trans (Nat.le_trans hBw HB2.out.size) hgl) (Nat.le_trans hBw HB8.out.size)))
     have hsl := sort_len9 D
     rw [HDr.out] at hsl
     have hr9 := hr8
     rw [← hsl] at hr9
     have hLi := lies_new (ok := OkB (fun _ => True) bn bl (.slice (some ⟨gh, 0, none⟩) i ch)) hr9 (fun g hg => ⟨fun e => by have := HNb.out.1; omega, fun e => by have := HNb.out.2.1; omega, fun e => (by have := hNb2 g e; omega), trivial⟩)
     rw [hsl] at hLi
     have HLi := Lib.hid hLi
     have HV9 := Lib.hid hv9
     have hp9 := hv9.par
     have q7 := hv9.box.cell 7 rfl
     have HBw9 : RowKit.Hid (B ≤ w8.heap.size) := Lib.hid (Nat.le_trans hBw HB9.out.size)
     have hrow9 := hp9.alloc (.cells #[.slice (some ⟨gl, 0, none⟩) j cl] 29)
     clear hg8 hr8 hr9 hLi hv9 hp9 hbk HBk HV8 HB8 HSr hsl
     go_upto_region 15 with fail
     go_wp2_with (at_builtin; refine wpList_append_own_at _ rfl _ _ 25 rfl B 29 i0 (.slice none 0 0) 1 24 Tryd.underlying25 hj0 hz0 hz1 hz2 rfl (by decide) _ _ _ rfl hrow9 ⟨w8.heap.size, 0, none⟩ 1 1 [.slice (some ⟨gl, 0, none⟩) j cl] rfl rfl (news_lit w8 [.slice (some ⟨gl, 0, none⟩) j cl] _ _ rfl) (by intro u hu; simp at hu; subst hu; rfl) ?_ ?_ (Nat.le_trans HBw9.out (by simp)) ?_)
     ·unfold maxLen
      omega
     ·omega
     intro v9 w9 hown9 hg9 hnil9 hat9
     have HP := Lib.hid ((HV9.out.alloc (.cells #[.slice (some ⟨gl, 0, none⟩) j cl] 29)).part _ v9 _ (HLi.out.alloc _) hown9 hg9)
     have hbx : Blk w9 f _ _ := box_grown (HV9.out.box.alloc (.cells #[.slice (some ⟨gl, 0, none⟩) j cl] 29)) hrow9 (by decide) hg9
     have q9 := hbx.cell 7 rfl
     have f9 := hbx.frozen 7
     have hB9 : Below B w w9 := (HB9.out.alloc (Nat.le_trans hBw HB9.out.size) _).grown hg9 (Nat.le_trans HBw9.out (by simp)) (fun q hq => (hrow9.lt q hq).1)
     have HBf := Lib.hid (hB9.setCell (p := ⟨f, 7, none⟩) HLw.out.1 v9)
     obtain ⟨p9, c9, rfl⟩ := owns_form hown9
     clear hown9 hg9 hnil9 hat9 hbx hrow9 hB9 q7
     go_wp2_with fail
     go_end0
     have hDn : D.Nodup := by
      have hd := hnd
      rw [HHC.out, List.nodup_append] at hd
      exact hd.2.1
     have h9 := HP.out
     rw [sortP_rise n D hDn (fun y hy => hlt y (by rw [HHC.out]; exact List.mem_append_right _ hy)), ← HDD.out] at h9
     exact ⟨rfl, ⟨fun e => absurd (HLa.out.trans HNa.out.symm) e, fun _ => ⟨H, C, by rw [HHC.out, HDD.out], _, _, _, _, _, h9⟩⟩, HBf.out⟩
  ·have hneb : ((la : Int) == (na : Int)) = false := by
    rw [beq_eq_false_iff_ne]
    omega
   go_wp2_with fail
   refine wpk HS [] (by kernel_rfl) fun hB0 hS0 => ?_
   refine wfr 0 (v := ?_) rfl ?_ ?_
   rotate_left
   ·intro w' hw';go_simp;try with_reducible rfl
   try simp only [Act.put, sq]
   refine wfr 1 (v := ?_) rfl ?_ ?_
   rotate_left
   ·intro w' hw';go_simp;try with_reducible rfl
   try simp only [Act.put, sq]
   refine wfr 2 (v := ?_) rfl ?_ ?_
   rotate_left
   ·intro w' hw';go_simp;try with_reducible rfl
   try simp only [Act.put, sq]
   refine wtk 3 15 (v := ?_) rfl ?_ hS0 ?_
   rotate_left
   ·intro w' hw';(try dsimp only at hw');go_simp;try with_reducible rfl
   try simp only [Act.put, sq]
   refine wfr 4 (v := ?_) rfl ?_ ?_
   rotate_left
   ·intro w' hw';go_simp;try with_reducible rfl
   try simp only [Act.put, sq]
   refine wfr 5 (v := ?_) rfl ?_ ?_
   rotate_left
   ·intro w' hw';go_simp;try with_reducible rfl
   try simp only [Act.put, sq]
   refine wtk 6 15 (v := ?_) rfl ?_ hS0 ?_
   rotate_left
   ·intro w' hw';(try dsimp only at hw');go_simp;try with_reducible rfl
   try simp only [Act.put, sq]
   refine wfr 7 (v := ?_) rfl ?_ ?_
   rotate_left
   ·intro w' hw';go_simp;try with_reducible rfl
   try simp only [Act.put, sq]
   refine wfr 8 (v := ?_) rfl ?_ ?_
   rotate_left
   ·intro w' hw';go_simp;try with_reducible rfl
   try simp only [Act.put, sq]
   refine wfr 9 (v := ?_) rfl ?_ ?_
   rotate_left
   ·intro w' hw';go_simp;try with_reducible rfl
   try simp only [Act.put, sq]
   refine wtk 10 15 (v := ?_) rfl ?_ hS0 ?_
   rotate_left
   ·intro w' hw';(try dsimp only at hw');go_simp;try with_reducible rfl
   try simp only [Act.put, sq]
   refine won 11 rfl fun K hK => ?_
   go_simp
   refine hK.out _ _ (fun _ h => h) ?_
   clear hK K
   try simp only [Act.put, sq]
   refine won 12 rfl fun K hK => ?_
   go_simp
   refine hK.out _ _ (fun _ h => h) ?_
   clear hK K
   try simp only [Act.put, sq]
   refine won 13 rfl fun K hK => ?_
   go_simp
   refine hK.out _ _ (fun _ h => h) ?_
   clear hK K
   try simp only [Act.put, sq]
   refine won 14 rfl fun K hK => ?_
   go_simp
   refine hK.out _ _ (fun _ h => h) ?_
   clear hK K
   try simp only [Act.put, sq]
   refine wpAnyM_done (by kernel_rfl) ?_ _
   try simp only [Act.put, sq]
   go_wp2_with fail
   (try simp only [Exit.inBlock, Exit.then]); refine bodyPost_ret (results_none rfl _ _ _) rfl ?_
   exact ⟨rfl, ⟨fun _ => ⟨_, _, _, _, _, FV2.out.later hB0⟩, fun e => absurd (by rw [← HLa.out, ← HNa.out]; exact e) hne⟩, HB2.out.trans (hB0.mono (Nat.le_trans hBw HB2.out.size))⟩
end Go.Proofs.YtldcbapjiflblaaDoor
