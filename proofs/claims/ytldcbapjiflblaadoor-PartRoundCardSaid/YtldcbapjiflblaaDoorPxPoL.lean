/-
  Layer 20 (part): the three laws walked. No conditions but that math/bits's table is as its initialiser lays it.
-/
import Derived.Test.YtldcbapjiflblaaDoorPxPoW
import Derived.Test.YtldcbapjiflblaaDoorPxPoR
import Derived.Test.YtldcbapjiflblaaDoorPxRfO
import Derived.Test.YtldcbapjiflblaaDoorPxPoF
namespace Go.Proofs.YtldcbapjiflblaaDoor
open Go.RowKit Go.Lib
theorem tab_later {w w' : World} (hT : TabAt 0 Lib.deBruijn64tab w) (hTg : 0 < w.heap.size) (hb : Below w.heap.size w w') : TabAt 0 Lib.deBruijn64tab w' ∧ 0 < w'.heap.size :=
 ⟨fun j hj => cell_later hb (hT j hj), Nat.lt_of_lt_of_le hTg hb.size⟩
theorem sum_next (P : List (List Nat)) (k : Nat) (hk : k < P.length) : ((P.take (k + 1)).map List.length).sum = ((P.take k).map List.length).sum + (P.getD k []).length := by
 have e : P.take (k + 1) = P.take k ++ [P.getD k []] := by
  rw [List.take_add_one]
  simp [hk]
 rw [e]
 simp
theorem once_edges {n : Nat} {N : List EdgM} {P : List (List Nat)} {f : Nat → Nat} (h : PartsK n (EdgL N) n P) (hN : ∀ e ∈ N, e.1 < n ∧ e.2 < n) (hf : ∀ x, x < n → f x = whichP P x) : ¬ ∃ a, Relation.TransGen (EdgL (N.filter fun e => f e.1 != f e.2)) a a :=
 once_round h (edgL_lt hN) fun a b hab => by
  have h1 : (a, b) ∈ N.filter fun e => f e.1 != f e.2 := hab
  obtain ⟨h2, h3⟩ := List.mem_filter.1 h1
  refine ⟨h2, ?_⟩
  have h4 := hN _ h2
  rw [← hf a h4.1, ← hf b h4.2]
  simpa using h3
def restK (N : List EdgM) (f : Nat → Nat) (k : Nat) : List EdgM := (N.take k).filter fun e => f e.1 != f e.2
theorem rest_next (N : List EdgM) (f : Nat → Nat) (k : Nat) (hk : k < N.length) : restK N f (k + 1) = restK N f k ++ (if f (N.getD k (0, 0)).1 = f (N.getD k (0, 0)).2 then [] else [N.getD k (0, 0)]) := by
 have e : N.take (k + 1) = N.take k ++ [N.getD k (0, 0)] := by
  rw [List.take_add_one]
  simp [hk]
 unfold restK
 rw [e, List.filter_append]
 congr 1
 by_cases h : f (N.getD k (0, 0)).1 = f (N.getD k (0, 0)).2
 ·rw [if_pos h, List.filter_cons, if_neg (by rw [h]; simp)]
  rfl
 ·rw [if_neg h, List.filter_cons, if_pos (by simpa using h)]
  rfl
theorem restK_len (N : List EdgM) (f : Nat → Nat) (k : Nat) : (restK N f k).length ≤ N.length := by
 unfold restK
 exact Nat.le_trans (List.length_filter_le _ _) (by rw [List.length_take]; omega)
set_option maxRecDepth 100000 in
set_option maxHeartbeats 4000000 in
theorem partround_any (n : Int) (w : World) (v : Value) (L : List EdgI) (hv : ValsA w v L) (hT : TabAt 0 Lib.deBruijn64tab w) (hTg : 0 < w.heap.size) : Calls Tryd.prog 4 #[.int .i64 n, v] w fun e w' => e = .returned (.bool true) ∧ Below w.heap.size w w' := by
 obtain ⟨m, hm⟩ : ∃ m, smallG n = m := ⟨_, rfl⟩
 have HSm := small19_any n
 rw [hm] at HSm
 clear hm
 obtain ⟨T, hT0⟩ : ∃ T, L.take 60 = T := ⟨_, rfl⟩
 have hTl : T.length ≤ 60 := by rw [← hT0, List.length_take]; omega
 have hTT : T.take 60 = T := List.take_of_length_le hTl
 have HF0 := few19_any w v L hv
 rw [hT0] at HF0
 have HFw := Lib.hid HF0
 have HTT := Lib.hid hTT
 have HTb := Lib.hid (fun w' (hb : Below w.heap.size w w') => tab_later hT hTg hb)
 have HWk := Lib.hid (fun w' (hb : Below w.heap.size w w') => works20_any w' (HTb.out w' hb).1 (HTb.out w' hb).2)
 clear hv hT0 hTT HF0 hT hTg
 cases hmay : mayG m T with
 | false =>
  have HNo := Lib.hid (may_no hmay)
  have HMy : RowKit.Hid (∀ w' p c, HasE w' p T → Calls Tryd.prog 10 #[.int .i64 m, .slice p T.length c] w' fun e w'' => e = .returned (.bool false) ∧ w'' = w') := Lib.hid (fun w' p c h => by
   have := rmay20_any m p c T w' h (by omega)
   rwa [hmay] at this)
  clear hmay
  go_enter Tryd.func4, Tryd.ntmps4
  go_wp2_with fail
  refine (HSm _).mono ?_
  rintro e w0 ⟨rfl, hw0⟩
  subst hw0
  go_wp2_with fail
  refine HFw.out.mono ?_
  rintro e w1 ⟨v1, rfl, hown, hb1⟩
  obtain ⟨p1, c1, rfl, he1, ha1⟩ := own_edges hown
  have HE1 := Lib.hid he1
  have HA1 := Lib.hid ha1
  have HB1 := Lib.hid hb1
  clear hown he1 ha1 hb1 HFw HSm
  have HFw := few19_any w1 _ T HA1.out
  rw [HTT.out] at HFw
  go_wp2_with fail
  refine HFw.mono ?_
  rintro e w2 ⟨v2, rfl, hown, hb2⟩
  obtain ⟨p2, c2, rfl, he2, -⟩ := own_edges hown
  have HR := Lib.hid (pround_no m p2 c2 T w2 he2 (by omega) HNo.out)
  have HB2 := Lib.hid (below_next HB1.out hb2)
  have HE1b := Lib.hid (HE1.out.below hb2)
  clear HFw hown he2 hb2
  go_wp2_with fail
  refine HR.out.mono ?_
  rintro e w3 ⟨rfl, hb3⟩
  have HB3 := Lib.hid (below_next HB2.out hb3)
  have HM := Lib.hid (HMy.out w3 p1 c1 (HE1b.out.below hb3))
  clear hb3 HR
  go_wp2_with fail
  refine HM.out.mono ?_
  rintro e w4 ⟨rfl, hw4⟩
  subst hw4
  have HW := Lib.hid (HWk.out _ HB3.out)
  clear HM
  go_wp2_with fail
  refine HW.out.mono ?_
  rintro e w5 ⟨rfl, hb5⟩
  have HB5 := Lib.hid (below_next HB3.out hb5)
  clear hb5 HW
  go_wp2_with fail
  go_ret
  exact ⟨rfl, HB5.out⟩
 | true =>
  have HMy : RowKit.Hid (∀ w' p c, HasE w' p T → Calls Tryd.prog 10 #[.int .i64 m, .slice p T.length c] w' fun e w'' => e = .returned (.bool true) ∧ w'' = w') := Lib.hid (fun w' p c h => by
   have := rmay20_any m p c T w' h (by omega)
   rwa [hmay] at this)
  obtain ⟨k, N, hmk, hk, hTN, hN⟩ := may_yes hmay
  subst hmk
  subst hTN
  rw [intsE_len] at hTl
  have HNn := Lib.hid hN
  have HLn : RowKit.Hid ((intsE N).length = N.length) := Lib.hid (intsE_len N)
  clear hmay hN
  go_enter Tryd.func4, Tryd.ntmps4
  go_wp2_with fail
  refine (HSm _).mono ?_
  rintro e w0 ⟨rfl, hw0⟩
  subst hw0
  go_wp2_with fail
  refine HFw.out.mono ?_
  rintro e w1 ⟨v1, rfl, hown, hb1⟩
  obtain ⟨p1, c1, rfl, he1, ha1⟩ := own_edges hown
  have HE1 := Lib.hid he1
  have HA1 := Lib.hid ha1
  have HB1 := Lib.hid hb1
  clear hown he1 ha1 hb1 HFw HSm
  have HFw := few19_any w1 _ (intsE N) HA1.out
  rw [HTT.out] at HFw
  go_wp2_with fail
  refine HFw.mono ?_
  rintro e w2 ⟨v2, rfl, hown, hb2⟩
  obtain ⟨p2, c2, rfl, he2, -⟩ := own_edges hown
  have HB2 := Lib.hid (below_next HB1.out hb2)
  have htb := HTb.out _ HB2.out
  have HR := pround_ok k hk p2 c2 N HNn.out w2 he2 (by omega) htb.1 htb.2
  rw [← HLn.out] at HR
  have HE1b := Lib.hid (HE1.out.below hb2)
  clear HFw hown he2 hb2 htb
  go_wp2_with fail
  refine HR.mono ?_
  rintro e w3 ⟨b, rfl, hbi, hb3⟩
  have HBi := Lib.hid hbi
  have HB3 := Lib.hid (below_next HB2.out hb3)
  have HE3 := Lib.hid (HE1b.out.below hb3)
  have HM := Lib.hid (HMy.out w3 p1 c1 HE3.out)
  clear hb3 HR hbi
  go_wp2_with fail
  refine HM.out.mono ?_
  rintro e w4 ⟨rfl, hw4⟩
  subst hw4
  have HQ := rround_any k hk p1 c1 N HNn.out w4 HE3.out (by omega)
  rw [← HLn.out] at HQ
  clear HM
  go_wp2_with fail
  refine HQ.mono ?_
  rintro e w5 ⟨b', rfl, hbi', hb5⟩
  have hbb : b = b' := by rw [Bool.eq_iff_iff, HBi.out, hbi']
  subst hbb
  have HB5 := Lib.hid (below_next HB3.out hb5)
  have HW := Lib.hid (HWk.out _ HB5.out)
  clear hbi' hb5 HQ
  have hbe : (b == b) = true := by simp
  go_wp2_with fail
  refine HW.out.mono ?_
  rintro e w6 ⟨rfl, hb6⟩
  have HB6 := Lib.hid (below_next HB5.out hb6)
  clear hb6 HW
  go_wp2_with fail
  go_ret
  exact ⟨rfl, HB6.out⟩
set_option maxRecDepth 100000 in
set_option maxHeartbeats 4000000 in
theorem partof_any (n : Int) (w : World) (v : Value) (L : List EdgI) (hv : ValsA w v L) (hT : TabAt 0 Lib.deBruijn64tab w) (hTg : 0 < w.heap.size) : Calls Tryd.prog 3 #[.int .i64 n, v] w fun e w' => e = .returned (.bool true) ∧ Below w.heap.size w w' := by
 obtain ⟨m, hm⟩ : ∃ m, smallG n = m := ⟨_, rfl⟩
 have HSm := small19_any n
 rw [hm] at HSm
 clear hm
 obtain ⟨T, hT0⟩ : ∃ T, L.take 60 = T := ⟨_, rfl⟩
 have hTl : T.length ≤ 60 := by rw [← hT0, List.length_take]; omega
 have hTT : T.take 60 = T := List.take_of_length_le hTl
 have HF0 := few19_any w v L hv
 rw [hT0] at HF0
 have HFw := Lib.hid HF0
 have HTT := Lib.hid hTT
 have HTb := Lib.hid (fun w' (hb : Below w.heap.size w w') => tab_later hT hTg hb)
 have HWk := Lib.hid (fun w' (hb : Below w.heap.size w w') => works20_any w' (HTb.out w' hb).1 (HTb.out w' hb).2)
 clear hv hT0 hTT HF0 hT hTg
 cases hmay : mayG m T with
 | false =>
  have HNo := Lib.hid (may_no hmay)
  have HMy : RowKit.Hid (∀ w' p c, HasE w' p T → Calls Tryd.prog 10 #[.int .i64 m, .slice p T.length c] w' fun e w'' => e = .returned (.bool false) ∧ w'' = w') := Lib.hid (fun w' p c h => by
   have := rmay20_any m p c T w' h (by omega)
   rwa [hmay] at this)
  clear hmay
  go_enter Tryd.func3, Tryd.ntmps3
  go_wp2_with fail
  refine (HSm _).mono ?_
  rintro e w0 ⟨rfl, hw0⟩
  subst hw0
  go_wp2_with fail
  refine HFw.out.mono ?_
  rintro e w1 ⟨v1, rfl, hown, hb1⟩
  obtain ⟨p1, c1, rfl, he1, ha1⟩ := own_edges hown
  have HE1 := Lib.hid he1
  have HA1 := Lib.hid ha1
  have HB1 := Lib.hid hb1
  clear hown he1 ha1 hb1 HFw HSm
  have HFw := few19_any w1 _ T HA1.out
  rw [HTT.out] at HFw
  go_wp2_with fail
  refine HFw.mono ?_
  rintro e w2 ⟨v2, rfl, hown, hb2⟩
  obtain ⟨p2, c2, rfl, he2, -⟩ := own_edges hown
  have HR := Lib.hid (pof_no m p2 c2 T w2 he2 (by omega) HNo.out)
  have HB2 := Lib.hid (below_next HB1.out hb2)
  have HE1b := Lib.hid (HE1.out.below hb2)
  have HA1b := Lib.hid (HA1.out.below hb2)
  clear HFw hown he2 hb2
  go_wp2_with fail
  refine HR.out.mono ?_
  rintro e w3 ⟨rfl, hb3⟩
  have HB3 := Lib.hid (below_next HB2.out hb3)
  have HE3 := Lib.hid (HE1b.out.below hb3)
  have HFw := few19_any w3 _ T (HA1b.out.below hb3)
  rw [HTT.out] at HFw
  clear hb3 HR
  go_wp2_with fail
  refine HFw.mono ?_
  rintro e w4 ⟨v4, rfl, hown, hb4⟩
  obtain ⟨p4, c4, rfl, he4, -⟩ := own_edges hown
  have HR := Lib.hid (pwhich_no m p4 c4 T w4 he4 (by omega) HNo.out)
  have HB4 := Lib.hid (below_next HB3.out hb4)
  have HE4 := Lib.hid (HE3.out.below hb4)
  clear HFw hown he4 hb4
  go_wp2_with fail
  refine HR.out.mono ?_
  rintro e w5 ⟨rfl, hb5⟩
  have HB5 := Lib.hid (below_next HB4.out hb5)
  have HM := Lib.hid (HMy.out w5 p1 c1 (HE4.out.below hb5))
  clear hb5 HR
  go_wp2_with fail
  refine HM.out.mono ?_
  rintro e w6 ⟨rfl, hw6⟩
  subst hw6
  have HW := Lib.hid (HWk.out _ HB5.out)
  clear HM
  go_wp2_with fail
  refine HW.out.mono ?_
  rintro e w7 ⟨rfl, hb7⟩
  have HB7 := Lib.hid (below_next HB5.out hb7)
  clear hb7 HW
  go_wp2_with fail
  go_ret
  exact ⟨rfl, HB7.out⟩
 | true =>
  have HMy : RowKit.Hid (∀ w' p c, HasE w' p T → Calls Tryd.prog 10 #[.int .i64 m, .slice p T.length c] w' fun e w'' => e = .returned (.bool true) ∧ w'' = w') := Lib.hid (fun w' p c h => by
   have := rmay20_any m p c T w' h (by omega)
   rwa [hmay] at this)
  obtain ⟨k, N, hmk, hk, hTN, hN⟩ := may_yes hmay
  subst hmk
  subst hTN
  rw [intsE_len] at hTl
  have HNn := Lib.hid hN
  have HLn : RowKit.Hid ((intsE N).length = N.length) := Lib.hid (intsE_len N)
  clear hmay hN
  go_enter Tryd.func3, Tryd.ntmps3
  go_wp2_with fail
  refine (HSm _).mono ?_
  rintro e w0 ⟨rfl, hw0⟩
  subst hw0
  go_wp2_with fail
  refine HFw.out.mono ?_
  rintro e w1 ⟨v1, rfl, hown, hb1⟩
  obtain ⟨p1, c1, rfl, he1, ha1⟩ := own_edges hown
  have HE1 := Lib.hid he1
  have HA1 := Lib.hid ha1
  have HB1 := Lib.hid hb1
  clear hown he1 ha1 hb1 HFw HSm
  have HFw := few19_any w1 _ (intsE N) HA1.out
  rw [HTT.out] at HFw
  go_wp2_with fail
  refine HFw.mono ?_
  rintro e w2 ⟨v2, rfl, hown, hb2⟩
  obtain ⟨p2, c2, rfl, he2, -⟩ := own_edges hown
  have HB2 := Lib.hid (below_next HB1.out hb2)
  have htb := HTb.out _ HB2.out
  have HR := pof_ok k hk p2 c2 N HNn.out w2 he2 (by omega) htb.1 htb.2
  rw [← HLn.out] at HR
  have HE1b := Lib.hid (HE1.out.below hb2)
  have HA1b := Lib.hid (HA1.out.below hb2)
  clear HFw hown he2 hb2 htb
  go_wp2_with fail
  refine HR.mono ?_
  rintro e w3 ⟨pp, cp, P, rfl, hpk, hps, hb3⟩
  have HPk := Lib.hid hpk
  have HPs := Lib.hid hps
  have HB3 := Lib.hid (below_next HB2.out hb3)
  have HE3 := Lib.hid (HE1b.out.below hb3)
  have HFw := few19_any w3 _ (intsE N) (HA1b.out.below hb3)
  rw [HTT.out] at HFw
  clear hb3 HR hpk hps
  go_wp2_with fail
  refine HFw.mono ?_
  rintro e w4 ⟨v4, rfl, hown, hb4⟩
  obtain ⟨p4, c4, rfl, he4, -⟩ := own_edges hown
  have HB4 := Lib.hid (below_next HB3.out hb4)
  have HE4 := Lib.hid (HE3.out.below hb4)
  have HP4 := Lib.hid (HPs.out.below hb4)
  have htb := HTb.out _ HB4.out
  have HR := pwhich_ok k hk p4 c4 N HNn.out w4 he4 (by omega) htb.1 htb.2
  rw [← HLn.out] at HR
  clear HFw hown he4 hb4 htb HPs
  go_wp2_with fail
  refine HR.mono ?_
  rintro e w5 ⟨gw, P2, f, rfl, hpk2, hbf, hf, hb5⟩
  have hPP : P2 = P := parts_one hpk2 HPk.out
  subst hPP
  have HBf := Lib.hid hbf
  have HF := Lib.hid hf
  have HB5 := Lib.hid (below_next HB4.out hb5)
  have HE5 := Lib.hid (HE4.out.below hb5)
  have HP5 := Lib.hid (HP4.out.below hb5)
  have HM := Lib.hid (HMy.out w5 p1 c1 HE5.out)
  clear hb5 HR hpk2 hbf hf HP4
  go_wp2_with fail
  refine HM.out.mono ?_
  rintro e w6 ⟨rfl, hw6⟩
  subst hw6
  have HQ := rparts20_any k hk p1 c1 N HNn.out w6 HE5.out (by omega)
  rw [← HLn.out] at HQ
  clear HM
  go_wp2_with fail
  refine HQ.mono ?_
  rintro e w7 ⟨pq, cq, P3, rfl, hpk3, hqs, hb7⟩
  have hPP : P3 = P2 := parts_one hpk3 HPk.out
  subst hPP
  have HQs := Lib.hid hqs
  have HP7 := Lib.hid (HP5.out.below hb7)
  have HB7 := Lib.hid (below_next HB5.out hb7)
  have HBf7 := Lib.hid (HBf.out.later hb7)
  have HPl := Lib.hid (parts_few HPk.out)
  have hpl : P3.length ≤ 500 := by have := HPl.out; omega
  clear hpk3 hqs hb7 HQ HP5 HBf
  have hle : ((P3.length : Int) != (P3.length : Int)) = false := by simp
  have hke : ((k : Int) != (k : Int)) = false := by simp
  go_wp2_with fail
  go_loopw [10] (fun i wr => ∃ j : Nat, j ≤ P3.length ∧ i = .int .i64 j ∧ Below w7.heap.size w7 wr) (fun i _ => P3.length - (RowKit.intOf i).toNat)
  case atStart => exact ⟨0, Nat.zero_le _, rfl, Below.refl _ _⟩
  case round =>
   obtain ⟨i, hi, rfl, hbw⟩ := hrel
   by_cases hlt : i < P3.length
   ·obtain ⟨g, pi, ci, rfl, a0, hii⟩ := HP7.out i hlt
    obtain ⟨gq, qi, di, rfl, b0, hqi⟩ := HQs.out i hlt
    obtain ⟨M, hM⟩ : ∃ M, P3.getD i [] = M := ⟨_, rfl⟩
    rw [hM] at a0 hii b0 hqi
    have HMm : RowKit.Hid (M ∈ P3) := Lib.hid (by
     rw [← hM, show P3.getD i [] = P3[i] by simp [hlt]]
     exact List.getElem_mem hlt)
    have HWh : RowKit.Hid (∀ x ∈ M, x < k ∧ f x = i) := Lib.hid (fun x hx => by
     have h1 := (HPk.out.cl M HMm.out x hx).1
     refine ⟨h1, ?_⟩
     rw [HF.out x h1]
     exact which_at HPk.out i hlt x (by rw [← hM, show P3.getD i [] = P3[i] by simp [hlt]] at hx; exact hx))
    have hMl : M.length ≤ 500 := by
     have h9 := nodup_few (m := List.range k) ((HPk.out.so M HMm.out).imp fun {a b} hab e => by omega) (fun x hx => List.mem_range.2 (HWh.out x hx).1)
     rw [List.length_range] at h9
     omega
    have HSm : RowKit.Hid (∀ w', Below wr.heap.size wr w' → Calls Tryd.prog 13 #[.slice pi M.length ci, .slice qi M.length di] w' fun e w'' => e = .returned (.bool true) ∧ Below w'.heap.size w' w'') := Lib.hid (fun w' hb => by
     have h9 := sameo_at w' pi qi ci di (intsP M) (intsP M) ((hii.below hbw).below hb) ((hqi.below hbw).below hb) (by rw [intsP_len]; omega)
     rw [intsP_len, beq_self_eq_true] at h9
     exact h9)
    have HS0 : RowKit.Hid (∀ w', Below wr.heap.size wr w' → w'.cell? ⟨g, i, none⟩ = some (.slice pi M.length ci) ∧ w'.cell? ⟨gq, i, none⟩ = some (.slice qi M.length di) ∧ Below wr.heap.size wr w') := Lib.hid (fun w' hb => ⟨cell_later (below_next hbw hb) a0, cell_later (below_next hbw hb) b0, hb⟩)
    have HQi := Lib.hid hqi
    have HQ0 := Lib.hid b0
    have HBw := Lib.hid hbw
    obtain ⟨li, hli⟩ : ∃ li, M.length = li := ⟨_, rfl⟩
    have HLi := Lib.hid hli
    rw [hli] at HSm HS0 hMl HQ0
    have HS := HS0
    clear a0 b0 hii hqi hbw hM hli HS0
    go_wp2_with fail
    refine wpk HS [] (by kernel_rfl) fun hB0 hS0 => ?_
    refine wfr 0 (v := ?_) rfl ?_ ?_
    rotate_left
    ·intro w' hw';go_simp;try with_reducible rfl
    try simp only [Act.put, sq]
    refine wfr 1 (v := ?_) rfl ?_ ?_
    rotate_left
    ·intro w' hw';go_simp;try with_reducible rfl
    try simp only [Act.put, sq]
    refine wfr 2 (v := ?_) rfl ?_ ?_
    rotate_left
    ·intro w' hw';go_simp;try with_reducible rfl
    try simp only [Act.put, sq]
    refine wtk 3 10 (v := ?_) rfl ?_ hS0 ?_
    rotate_left
    ·intro w' hw';(try dsimp only at hw');go_simp;try with_reducible rfl
    try simp only [Act.put, sq]
    refine wfr 4 (v := ?_) rfl ?_ ?_
    rotate_left
    ·intro w' hw';go_simp;try with_reducible rfl
    try simp only [Act.put, sq]
    refine won 5 rfl fun K hK => ?_
    go_simp
    refine hK.out _ _ (fun _ h => h) ?_
    clear hK K
    try simp only [Act.put, sq]
    refine won 6 rfl fun K hK => ?_
    go_simp
    refine hK.out _ _ (fun _ h => h) ?_
    clear hK K
    try simp only [Act.put, sq]
    refine won 7 rfl fun K hK => ?_
    go_simp
    refine hK.out _ _ (fun _ h => h) ?_
    clear hK K
    try simp only [Act.put, sq]
    refine won 8 rfl fun K hK => ?_
    go_simp
    refine (HSm.out _ hB0).mono ?_
    rintro e w1 ⟨rfl, hb1⟩
    have hB1 := below_next hB0 hb1
    have hS1 := HS.out _ hB1
    refine hK.out _ _ (fun _ _ => hS1) ?_
    clear hK K hS0
    try simp only [Act.put, sq]
    refine won 9 rfl fun K hK => ?_
    go_simp
    refine hK.out _ _ (fun _ h => h) ?_
    clear hK K
    try simp only [Act.put, sq]
    refine wpAnyM_done (by kernel_rfl) ?_ _
    try simp only [Act.put, sq]
    have HB9 := Lib.hid (below_next HBw.out hB1)
    clear hS1 HS HSm
    go_wp2_with fail
    go_loopw [11] (fun kk wx => ∃ m : Nat, m ≤ li ∧ kk = .int .i64 m ∧ Below w7.heap.size w7 wx) (fun kk _ => li - (RowKit.intOf kk).toNat)
    case atStart => exact ⟨0, Nat.zero_le _, rfl, HB9.out⟩
    case round =>
     obtain ⟨m, hm, rfl, hbx⟩ := hrel
     have q0 := cell_later hbx HQ0.out
     by_cases hml : m < li
     ·obtain ⟨gi, oi, rfl, z0⟩ := HQi.out m (by rw [intsP_len, HLi.out]; exact hml)
      rw [intsP_at] at z0
      have z1 := cell_later hbx z0
      obtain ⟨x, hx⟩ : ∃ x, M.getD m 0 = x := ⟨_, rfl⟩
      rw [hx] at z1
      have hml2 : m < M.length := by rw [HLi.out]; exact hml
      have hxM : x ∈ M := by
       rw [← hx, show M.getD m 0 = M[m] by simp [hml2]]
       exact List.getElem_mem hml2
      obtain ⟨hxk, hfx⟩ := HWh.out x hxM
      have f0 := (HBf7.out.later hbx).cell x (numL_zero k x hxk f)
      rw [hfx] at f0
      have e9 : ((i : Int) != (i : Int)) = false := by simp
      clear z0 hx hxM hfx hml2
      go_wp2_with fail
      go_roundw
      case rel => exact ⟨m + 1, by omega, by go_num, hbx⟩
      case measure => simp [RowKit.intOf]; omega
     ·have hme : m = li := by omega
      subst hme
      go_wp2_with fail
      go_roundw
      case rel => exact ⟨i + 1, by omega, by go_num, hbx⟩
      case measure => simp [RowKit.intOf]; omega
   ·have hie : i = P3.length := by omega
    subst hie
    have HB9 := Lib.hid (below_next HB7.out hbw)
    have HW := Lib.hid (HWk.out _ HB9.out)
    clear hbw
    go_wp2_with fail
    refine HW.out.mono ?_
    rintro e w9 ⟨rfl, hb9⟩
    have HB10 := Lib.hid (below_next HB9.out hb9)
    clear hb9 HW
    go_wp2_with fail
    go_ret
    exact ⟨rfl, HB10.out⟩
set_option maxRecDepth 100000 in
set_option maxHeartbeats 4000000 in
theorem partonce_any (n : Int) (w : World) (v : Value) (L : List EdgI) (hv : ValsA w v L) (hT : TabAt 0 Lib.deBruijn64tab w) (hTg : 0 < w.heap.size) : Calls Tryd.prog 5 #[.int .i64 n, v] w fun e w' => e = .returned (.bool true) ∧ Below w.heap.size w w' := by
 obtain ⟨m, hm⟩ : ∃ m, smallG n = m := ⟨_, rfl⟩
 have HSm := small19_any n
 rw [hm] at HSm
 clear hm
 obtain ⟨T, hT0⟩ : ∃ T, L.take 60 = T := ⟨_, rfl⟩
 have hTl : T.length ≤ 60 := by rw [← hT0, List.length_take]; omega
 have hTT : T.take 60 = T := List.take_of_length_le hTl
 have HVa := Lib.hid (fun w' (hb : Below w.heap.size w w') => hv.below hb)
 obtain ⟨i1, hj, hj0, hj1, hj2⟩ := info_parts info_edgeF
 have HF0 := few19_any w v L hv
 have HT0 := Lib.hid hT0
 have HTT := Lib.hid hTT
 have HTb := Lib.hid (fun w' (hb : Below w.heap.size w w') => tab_later hT hTg hb)
 have HWk := Lib.hid (fun w' (hb : Below w.heap.size w w') => works20_any w' (HTb.out w' hb).1 (HTb.out w' hb).2)
 clear hv hT0 hTT HF0 hT hTg
 have HW0 := Lib.hid (HWk.out w (Below.refl _ _))
 cases hmay : mayG m T with
 | false =>
  have HNo := Lib.hid (may_no hmay)
  clear hmay
  go_enter Tryd.func5, Tryd.ntmps5
  go_wp2_with fail
  refine HW0.out.mono ?_
  rintro e wk ⟨rfl, hbk⟩
  have HFw := few19_any wk v L (HVa.out _ hbk)
  rw [HT0.out] at HFw
  have HBk := Lib.hid hbk
  clear hbk
  go_wp2_with fail
  refine (HSm _).mono ?_
  rintro e w0 ⟨rfl, hw0⟩
  subst hw0
  go_wp2_with fail
  refine HFw.mono ?_
  rintro e w1 ⟨v1, rfl, hown, hb1⟩
  obtain ⟨p1, c1, rfl, he1, ha1⟩ := own_edges hown
  have HE1 := Lib.hid he1
  have HA1 := Lib.hid ha1
  have HB1 := Lib.hid (below_next HBk.out hb1)
  clear hown he1 ha1 hb1 HFw HSm
  have HR := Lib.hid (pof_no m p1 c1 T w1 HE1.out (by omega) HNo.out)
  go_wp2_with fail
  refine HR.out.mono ?_
  rintro e w2 ⟨rfl, hb2⟩
  have HB2 := Lib.hid (below_next HB1.out hb2)
  have HR2 := Lib.hid (pwhich_no m p1 c1 T w2 (HE1.out.below hb2) (by omega) HNo.out)
  clear hb2 HR
  go_wp2_with fail
  refine HR2.out.mono ?_
  rintro e w3 ⟨rfl, hb3⟩
  have HB3 := Lib.hid (below_next HB2.out hb3)
  clear hb3 HR2
  go_wp2_with fail
  go_ret
  exact ⟨rfl, HB3.out⟩
 | true =>
  obtain ⟨k, N, hmk, hk, hTN, hN⟩ := may_yes hmay
  subst hmk
  subst hTN
  rw [intsE_len] at hTl
  have HNn := Lib.hid hN
  have HLn : RowKit.Hid ((intsE N).length = N.length) := Lib.hid (intsE_len N)
  clear hmay hN
  go_enter Tryd.func5, Tryd.ntmps5
  go_wp2_with fail
  refine HW0.out.mono ?_
  rintro e wk ⟨rfl, hbk⟩
  have HFw := few19_any wk v L (HVa.out _ hbk)
  rw [HT0.out] at HFw
  have HBk := Lib.hid hbk
  clear hbk
  go_wp2_with fail
  refine (HSm _).mono ?_
  rintro e w0 ⟨rfl, hw0⟩
  subst hw0
  go_wp2_with fail
  refine HFw.mono ?_
  rintro e w1 ⟨v1, rfl, hown, hb1⟩
  obtain ⟨p1, c1, rfl, he1, ha1⟩ := own_edges hown
  have HE1 := Lib.hid he1
  have HA1 := Lib.hid ha1
  have HB1 := Lib.hid (below_next HBk.out hb1)
  clear hown he1 ha1 hb1 HFw HSm
  have htb := HTb.out _ HB1.out
  have HR := pof_ok k hk p1 c1 N HNn.out w1 HE1.out (by omega) htb.1 htb.2
  rw [← HLn.out] at HR
  clear htb
  go_wp2_with fail
  refine HR.mono ?_
  rintro e w2 ⟨pp, cp, P, rfl, hpk, hps, hb2⟩
  have HPk := Lib.hid hpk
  have HPs := Lib.hid hps
  have HB2 := Lib.hid (below_next HB1.out hb2)
  have HE2 := Lib.hid (HE1.out.below hb2)
  have htb := HTb.out _ HB2.out
  have HR2 := pwhich_ok k hk p1 c1 N HNn.out w2 HE2.out (by omega) htb.1 htb.2
  rw [← HLn.out] at HR2
  clear hpk hps hb2 HR htb HE1 HA1
  go_wp2_with fail
  refine HR2.mono ?_
  rintro e w3 ⟨gw, P2, f, rfl, hpk2, hbf, hf, hb3⟩
  have hPP : P2 = P := parts_one hpk2 HPk.out
  subst hPP
  have HBf := Lib.hid hbf
  have HF := Lib.hid hf
  have HB3 := Lib.hid (below_next HB2.out hb3)
  have HE3 := Lib.hid (HE2.out.below hb3)
  have HP3 := Lib.hid (HPs.out.below hb3)
  have HPl := Lib.hid (parts_few HPk.out)
  have hpl : P2.length ≤ 500 := by have := HPl.out; omega
  have HCt := Lib.hid (parts_count HPk.out)
  have HCl : RowKit.Hid (∀ j, ((P2.take j).map List.length).sum ≤ 500) := Lib.hid (fun j => by
   have h1 : ((P2.take j).map List.length).sum + ((P2.drop j).map List.length).sum = (P2.map List.length).sum := by
    rw [← List.sum_append, ← List.map_append, List.take_append_drop]
   have := HCt.out
   omega)
  have HA3 := Lib.hid ((Below.refl w3.heap.size w3).alloc (Nat.le_refl _) (.cells #[] 39))
  have HR3 := Lib.hid (World.ownsRow_made (base := w3.heap.size) (size := 2) (e := 39) w3 #[] 0 (Nat.le_refl _) (Nat.zero_le _) rfl)
  clear hpk2 hbf hf hb3 HR2 HE2 HPs
  go_wp2_with fail
  obtain ⟨W4, hW4⟩ : ∃ q, w3.alloc (.cells #[] 39) = q := ⟨_, rfl⟩
  obtain ⟨g4, hg4⟩ : ∃ q, w3.heap.size = q := ⟨_, rfl⟩
  have HG4 := Lib.hid hg4
  try simp only [hW4, hg4]
  rw [hW4] at HA3 HR3
  rw [hg4] at HR3
  clear hW4 hg4
  go_loopw [9, 11] (fun m9 i wr => ∃ j : Nat, j ≤ P2.length ∧ i = .int .i64 j ∧ m9 = .int .i64 (((P2.take j).map List.length).sum : Nat) ∧ wr = W4) (fun _ i _ => P2.length - (RowKit.intOf i).toNat)
  case atStart => exact ⟨0, Nat.zero_le _, rfl, rfl, rfl⟩
  case round =>
   obtain ⟨i, hi, rfl, rfl, rfl⟩ := hrel
   by_cases hlt : i < P2.length
   ·obtain ⟨g, pi, ci, rfl, a0, -⟩ := HP3.out i hlt
    have a1 := cell_later HA3.out a0
    have hsn := sum_next P2 i hlt
    have hcl := HCl.out (i + 1)
    obtain ⟨s0, hs0⟩ : ∃ s, ((P2.take i).map List.length).sum = s := ⟨_, rfl⟩
    obtain ⟨s1, hs1⟩ : ∃ s, (P2.getD i []).length = s := ⟨_, rfl⟩
    rw [hs1] at a1
    rw [hs0, hs1] at hsn
    rw [hsn] at hcl
    try simp only [hs0]
    have HSn := Lib.hid hsn
    have e1 : IntKind.i64.wrap ((s0 : Int) + (s1 : Int)) = ((s0 + s1 : Nat) : Int) := by rw [IntKind.wrap_i64]; omega
    clear a0 hs0 hs1 hsn
    go_wp2_with fail
    go_roundw
    case rel => exact ⟨i + 1, by omega, by go_num, by rw [HSn.out] <;> rfl, by first | rfl | trivial⟩
    case measure => simp [RowKit.intOf]; omega
   ·have hie : i = P2.length := by omega
    subst hie
    have hsum : ((P2.take P2.length).map List.length).sum = k := by rw [List.take_length]; exact HCt.out
    try simp only [hsum]
    clear hsum
    obtain ⟨wo, rfl⟩ : ∃ q, q = wr := ⟨_, rfl⟩
    have HBw := Lib.hid (HA3.out)
    go_wp2_with fail
    go_loopw [10, 12] (fun r10 i wr => ∃ j : Nat, j ≤ N.length ∧ i = .int .i64 j ∧ wr.ownsRow w3.heap.size 39 2 r10 (restK N f j).length (valsC (intsE (restK N f j))) ∧ Below w3.heap.size w3 wr) (fun _ i _ => N.length - (RowKit.intOf i).toNat)
    case atStart => exact ⟨0, Nat.zero_le _, rfl, owns_base HR3.out (Nat.le_of_eq HG4.out), HBw.out⟩
    case round =>
     obtain ⟨i, hi, rfl, hown, hbw⟩ := hrel
     obtain ⟨pr, cr, rfl⟩ := owns_form hown
     have hrl := restK_len N f i
     by_cases hlt : i < N.length
     ·have hq1 : i < (intsE N).length := by rw [intsE_len]; exact hlt
      obtain ⟨ge, rfl, a0, a1⟩ := HE3.out i (by rw [intsE_len]; exact hlt)
      rw [intsE_at] at a0 a1
      dsimp only at a0 a1
      have hrn := rest_next N f i hlt
      have hmm : N.getD i (0, 0) ∈ N := by
       rw [show N.getD i (0, 0) = N[i] by simp [hlt]]
       exact List.getElem_mem hlt
      obtain ⟨⟨x, y⟩, hxy⟩ : ∃ q, N.getD i (0, 0) = q := ⟨_, rfl⟩
      rw [hxy] at a0 a1 hrn hmm
      dsimp only at a0 a1 hrn
      have hb := HNn.out _ hmm
      dsimp only at hb
      have b0 := HBf.out.cell x (numL_zero k x hb.1 f)
      have b1 := HBf.out.cell y (numL_zero k y hb.2 f)
      obtain ⟨R, hR⟩ : ∃ R, restK N f i = R := ⟨_, rfl⟩
      rw [hR] at hown hrn hrl
      obtain ⟨fx, hfx⟩ : ∃ q, f x = q := ⟨_, rfl⟩
      obtain ⟨fy, hfy⟩ : ∃ q, f y = q := ⟨_, rfl⟩
      rw [hfx] at b0 hrn
      rw [hfy] at b1 hrn
      have HS : RowKit.Hid (∀ w', Below wr.heap.size wr w' → w'.cell? ⟨ge, i * 2, none⟩ = some (.int .i64 (x : Nat)) ∧ w'.cell? ⟨ge, i * 2 + 1, none⟩ = some (.int .i64 (y : Nat)) ∧ w'.cell? ⟨gw, x, none⟩ = some (.int .i64 (fx : Nat)) ∧ w'.cell? ⟨gw, y, none⟩ = some (.int .i64 (fy : Nat)) ∧ Below wr.heap.size wr w') := Lib.hid (fun w' hb => ⟨cell_later (below_next hbw hb) a0, cell_later (below_next hbw hb) a1, cell_later (below_next hbw hb) b0, cell_later (below_next hbw hb) b1, hb⟩)
      have HO := Lib.hid hown
      have HRn := Lib.hid hrn
      have HBw2 := Lib.hid hbw
      have HHb := Lib.hid hb
      obtain ⟨hbx, hby⟩ := hb
      rw [show (restK N f i).length = R.length by rw [hR]]
      clear a0 a1 b0 b1 hxy hmm hR hfx hfy hown hrn hbw
      by_cases hff : fx = fy
      ·have e9 : ((fx : Int) != (fy : Int)) = false := by simp; omega
       have HRs : RowKit.Hid (restK N f (i + 1) = R) := Lib.hid (by rw [HRn.out, if_pos hff, List.append_nil])
       clear hff
       go_upto_region 16 with fail
       refine wpk HS [] (by kernel_rfl) fun hB0 hS0 => ?_
       refine wfr 0 (v := ?_) rfl ?_ ?_
       rotate_left
       ·intro w' hw';go_simp;try with_reducible rfl
       try simp only [Act.put, sq]
       refine wfr 1 (v := ?_) rfl ?_ ?_
       rotate_left
       ·intro w' hw';go_simp;try with_reducible rfl
       try simp only [Act.put, sq]
       refine wfr 2 (v := ?_) rfl ?_ ?_
       rotate_left
       ·intro w' hw';go_simp;try with_reducible rfl
       try simp only [Act.put, sq]
       refine wfr 3 (v := ?_) rfl ?_ ?_
       rotate_left
       ·intro w' hw';go_simp;try with_reducible rfl
       try simp only [Act.put, sq]
       refine wfr 4 (v := ?_) rfl ?_ ?_
       rotate_left
       ·intro w' hw';go_simp;try with_reducible rfl
       try simp only [Act.put, sq]
       refine wtk 5 17 (v := ?_) rfl ?_ hS0 ?_
       rotate_left
       ·intro w' hw';(try dsimp only at hw');go_simp;try with_reducible rfl
       try simp only [Act.put, sq]
       refine wfr 6 (v := ?_) rfl ?_ ?_
       rotate_left
       ·intro w' hw';go_simp;try with_reducible rfl
       try simp only [Act.put, sq]
       refine wtk 7 17 (v := ?_) rfl ?_ hS0 ?_
       rotate_left
       ·intro w' hw';(try dsimp only at hw');go_simp;try with_reducible rfl
       try simp only [Act.put, sq]
       refine wfr 8 (v := ?_) rfl ?_ ?_
       rotate_left
       ·intro w' hw';go_simp;try with_reducible rfl
       try simp only [Act.put, sq]
       refine wfr 9 (v := ?_) rfl ?_ ?_
       rotate_left
       ·intro w' hw';go_simp;try with_reducible rfl
       try simp only [Act.put, sq]
       refine won 10 rfl fun K hK => ?_
       go_simp
       refine hK.out _ _ (fun _ h => h) ?_
       clear hK K
       try simp only [Act.put, sq]
       refine won 11 rfl fun K hK => ?_
       go_simp
       refine hK.out _ _ (fun _ h => h) ?_
       clear hK K
       try simp only [Act.put, sq]
       refine won 12 rfl fun K hK => ?_
       go_simp
       refine hK.out _ _ (fun _ h => h) ?_
       clear hK K
       try simp only [Act.put, sq]
       refine won 13 rfl fun K hK => ?_
       go_simp
       refine hK.out _ _ (fun _ h => h) ?_
       clear hK K
       try simp only [Act.put, sq]
       refine won 14 rfl fun K hK => ?_
       go_simp
       refine hK.out _ _ (fun _ h => h) ?_
       clear hK K
       try simp only [Act.put, sq]
       refine won 15 rfl fun K hK => ?_
       go_simp
       refine hK.out _ _ (fun _ h => h) ?_
       clear hK K
       try simp only [Act.put, sq]
       refine won 16 rfl fun K hK => ?_
       go_simp
       refine hK.out _ _ (fun _ h => h) ?_
       clear hK K
       try simp only [Act.put, sq]
       refine wpAnyM_done (by kernel_rfl) ?_ _
       try simp only [Act.put, sq]
       have HB9 := Lib.hid (below_next HBw2.out hB0)
       have HO9 := Lib.hid (owns_later HO.out hB0)
       clear hS0 HS
       go_wp2_with fail
       go_roundw
       case rel => exact ⟨i + 1, by omega, by go_num, by rw [HRs.out]; exact HO9.out, HB9.out⟩
       case measure => simp [RowKit.intOf]; omega
      ·have e9 : ((fx : Int) != (fy : Int)) = true := by
        rw [bne_iff_ne]
        omega
       have HRs : RowKit.Hid (restK N f (i + 1) = R ++ [(x, y)]) := Lib.hid (by rw [HRn.out, if_neg hff])
       clear hff
       go_upto_region 16 with fail
       refine wpk HS [] (by kernel_rfl) fun hB0 hS0 => ?_
       refine wfr 0 (v := ?_) rfl ?_ ?_
       rotate_left
       ·intro w' hw';go_simp;try with_reducible rfl
       try simp only [Act.put, sq]
       refine wfr 1 (v := ?_) rfl ?_ ?_
       rotate_left
       ·intro w' hw';go_simp;try with_reducible rfl
       try simp only [Act.put, sq]
       refine wfr 2 (v := ?_) rfl ?_ ?_
       rotate_left
       ·intro w' hw';go_simp;try with_reducible rfl
       try simp only [Act.put, sq]
       refine wfr 3 (v := ?_) rfl ?_ ?_
       rotate_left
       ·intro w' hw';go_simp;try with_reducible rfl
       try simp only [Act.put, sq]
       refine wfr 4 (v := ?_) rfl ?_ ?_
       rotate_left
       ·intro w' hw';go_simp;try with_reducible rfl
       try simp only [Act.put, sq]
       refine wtk 5 17 (v := ?_) rfl ?_ hS0 ?_
       rotate_left
       ·intro w' hw';(try dsimp only at hw');go_simp;try with_reducible rfl
       try simp only [Act.put, sq]
       refine wfr 6 (v := ?_) rfl ?_ ?_
       rotate_left
       ·intro w' hw';go_simp;try with_reducible rfl
       try simp only [Act.put, sq]
       refine wtk 7 17 (v := ?_) rfl ?_ hS0 ?_
       rotate_left
       ·intro w' hw';(try dsimp only at hw');go_simp;try with_reducible rfl
       try simp only [Act.put, sq]
       refine wfr 8 (v := ?_) rfl ?_ ?_
       rotate_left
       ·intro w' hw';go_simp;try with_reducible rfl
       try simp only [Act.put, sq]
       refine wfr 9 (v := ?_) rfl ?_ ?_
       rotate_left
       ·intro w' hw';go_simp;try with_reducible rfl
       try simp only [Act.put, sq]
       refine won 10 rfl fun K hK => ?_
       go_simp
       refine hK.out _ _ (fun _ h => h) ?_
       clear hK K
       try simp only [Act.put, sq]
       refine won 11 rfl fun K hK => ?_
       go_simp
       refine hK.out _ _ (fun _ h => h) ?_
       clear hK K
       try simp only [Act.put, sq]
       refine won 12 rfl fun K hK => ?_
       go_simp
       refine hK.out _ _ (fun _ h => h) ?_
       clear hK K
       try simp only [Act.put, sq]
       refine won 13 rfl fun K hK => ?_
       go_simp
       refine hK.out _ _ (fun _ h => h) ?_
       clear hK K
       try simp only [Act.put, sq]
       refine won 14 rfl fun K hK => ?_
       go_simp
       refine hK.out _ _ (fun _ h => h) ?_
       clear hK K
       try simp only [Act.put, sq]
       refine won 15 rfl fun K hK => ?_
       go_simp
       refine hK.out _ _ (fun _ h => h) ?_
       clear hK K
       try simp only [Act.put, sq]
       refine won 16 rfl fun K hK => ?_
       go_simp
       refine hK.out _ _ (fun _ h => h) ?_
       clear hK K
       try simp only [Act.put, sq]
       refine wpAnyM_done (by kernel_rfl) ?_ _
       try simp only [Act.put, sq]
       have HB9 := Lib.hid (below_next HBw2.out hB0)
       have HO9 := Lib.hid (owns_later HO.out hB0)
       obtain ⟨c0, c1, -, -, -⟩ := hS0
       obtain ⟨W9, hW9⟩ : ∃ q, wr.drew = q := ⟨_, rfl⟩
       rw [hW9] at HB9 HO9 c0 c1 ⊢
       clear HS hB0 hW9 e9
       have hX := HO9.out.alloc (.cells #[.int .i64 (x : Nat), .int .i64 (y : Nat)] 39)
       have HX := Lib.hid hX
       have HB10 := Lib.hid (HB9.out.alloc HB9.out.size (.cells #[.int .i64 (x : Nat), .int .i64 (y : Nat)] 39))
       clear hX
       go_wp2_with (at_builtin; refine wpList_append_own _ rfl _ _ 22 rfl w3.heap.size 39 i1 (.agg #[.int .i64 0, .int .i64 0]) 2 16 Tryd.underlying22 hj hj0 hj1 hj2 rfl (by decide) _ _ _ rfl HX.out ⟨W9.heap.size, 0, none⟩ 1 1 [.int .i64 (x : Nat), .int .i64 (y : Nat)] rfl rfl (news_lit W9 [.int .i64 (x : Nat), .int .i64 (y : Nat)] _ _ rfl) (by intro u hu; simp at hu; rcases hu with rfl | rfl <;> rfl) ?_ ?_ HB10.out.size ?_)
       ·unfold maxLen
        omega
       ·omega
       intro v' w4 hown4 hgr hnil
       have HB11 := Lib.hid (HB10.out.grown hgr HB10.out.size (fun q hq => (HX.out.lt q hq).1))
       have HO11 : RowKit.Hid (w4.ownsRow w3.heap.size 39 2 v' (R ++ [(x, y)]).length (valsC (intsE (R ++ [(x, y)])))) := Lib.hid (by
        have e : valsC (intsE (R ++ [(x, y)])) = valsC (intsE R) ++ [.int .i64 (x : Nat), .int .i64 (y : Nat)] := by simp [valsC, intsE, valCells]
        rw [e, List.length_append]
        exact hown4)
       obtain ⟨p4, c4, rfl⟩ := owns_form hown4
       clear hown4 hgr hnil c0 c1 HX
       go_wp2_with fail
       go_roundw
       case rel => exact ⟨i + 1, by omega, by go_num, by rw [HRs.out]; exact HO11.out, HB11.out⟩
       case measure => simp [RowKit.intOf]; omega
     ·have hie : i = N.length := by omega
      subst hie
      have hq2 : ¬ N.length < (intsE N).length := by rw [intsE_len]; omega
      have hre : restK N f N.length = N.filter fun e => f e.1 != f e.2 := by unfold restK; rw [List.take_length]
      obtain ⟨M, hM⟩ : ∃ M, restK N f N.length = M := ⟨_, rfl⟩
      rw [hM] at hown hrl
      have HMn : RowKit.Hid (∀ e ∈ M, e.1 < k ∧ e.2 < k) := Lib.hid (fun e he => HNn.out e (by
       rw [← hM, hre] at he
       exact (List.mem_filter.1 he).1))
      have HMo : RowKit.Hid (¬ ∃ a, Relation.TransGen (EdgL M) a a) := Lib.hid (by rw [← hM, hre]; exact once_edges HPk.out HNn.out HF.out)
      rw [← intsE_len M] at hown
      obtain ⟨pe, ce, e5, he5, -⟩ := own_edges hown
      rw [intsE_len] at e5
      rw [hM]
      injection e5 with e6 e7 e8
      subst e6
      subst e8
      have htb := HTb.out _ (below_next HB3.out hbw)
      have HRd := Lib.hid (pround_ok k hk pr cr M HMn.out wr he5 (by omega) htb.1 htb.2)
      have HB9 := Lib.hid (below_next HB3.out hbw)
      have hke : ((k : Int) == (k : Int)) = true := by simp
      clear hown hre hM he5 htb hbw e7
      go_wp2_with fail
      refine HRd.out.mono ?_
      rintro e w5 ⟨b, rfl, hbi, hb5⟩
      have hbf : b = false := by
       cases b with
       | false => rfl
       | true => exact absurd (hbi.1 rfl) HMo.out
      subst hbf
      have HB10 := Lib.hid (below_next HB9.out hb5)
      clear hbi hb5 HRd
      go_wp2_with fail
      go_ret
      exact ⟨rfl, HB10.out⟩
end Go.Proofs.YtldcbapjiflblaaDoor
