/-
  Layer 19 (graph): a graph made of edges, walked. No conditions.
-/
import Derived.Test.YtldcbapjiflblaaDoorPxGrB
import Derived.Test.YtldcbapjiflblaaDoorPxGrC
namespace Go.Proofs.YtldcbapjiflblaaDoor
open Go.RowKit Go.Lib
abbrev EdgI := Int × Int
def HasE (w : World) (p : Option Addr) (L : List EdgI) : Prop := ∀ j, j < L.length → ∃ g, p = some ⟨g, 0, none⟩ ∧ w.cell? ⟨g, j * 2, none⟩ = some (.int .i64 (L.getD j (0, 0)).1) ∧ w.cell? ⟨g, j * 2 + 1, none⟩ = some (.int .i64 (L.getD j (0, 0)).2)
theorem HasE.below {w w' : World} {p : Option Addr} {L : List EdgI} (h : HasE w p L) (hb : Below w.heap.size w w') : HasE w' p L := fun j hj => by
 obtain ⟨g, e, a, b⟩ := h j hj
 exact ⟨g, e, cell_later hb a, cell_later hb b⟩
def okG (n : Nat) (e : EdgI) : Bool := decide (0 ≤ e.1) && decide (e.1 < (n : Int)) && (decide (0 ≤ e.2) && decide (e.2 < (n : Int)))
theorem okG_nat {n : Nat} {e : EdgI} (h : okG n e = true) : ∃ a b : Nat, e = ((a : Int), (b : Int)) ∧ a < n ∧ b < n := by
 unfold okG at h
 simp only [Bool.and_eq_true, decide_eq_true_eq] at h
 exact ⟨e.1.toNat, e.2.toNat, by rw [Int.toNat_of_nonneg (by omega), Int.toNat_of_nonneg (by omega)], by omega, by omega⟩
def okE (n : Nat) (L : List EdgI) : Bool := L.all (okG n)
theorem take_nextE (L : List EdgI) (k : Nat) (hk : k < L.length) : L.take (k + 1) = L.take k ++ [L.getD k (0, 0)] := by
 rw [List.take_add_one]
 simp [hk]
set_option maxRecDepth 100000 in
set_option maxHeartbeats 4000000 in
theorem gput_no {w : World} {B gb n : Nat} {tb fb : List Nat} {T F : List (List Nat)} {m : Nat} (h : GrW w B gb tb fb T F m) (hn1 : tb.length = n) (a b : Int) (hab : okG n (a, b) = false) :
  Calls Tryd.prog 28 #[.pointer (some ⟨gb, 0, none⟩), .int .i64 a, .int .i64 b] w fun e w' => e = .returned (.tuple #[.bool false, .int .i64 2]) ∧ w' = w := by
 obtain ⟨vt, vf, vr, nr, xr, h1, h2, h3, h4, h5, h6, h7, h8, h9, h10, hnr⟩ := h
 rw [hn1] at h2
 obtain ⟨p0, c0, rfl⟩ := owns_form h2
 have HI := Lib.hid (gis_any h1)
 have HN1 := Lib.hid (gnode_any h1 a)
 have HN2 := Lib.hid (gnode_any h1 b)
 unfold okG at hab
 dsimp only at hab
 generalize (decide (0 ≤ a) && decide (a < (n : Int))) = x at HN1 hab
 generalize (decide (0 ≤ b) && decide (b < (n : Int))) = y at HN2 hab
 clear h1 h2 h3 h4 h5 h6 h7 h8 h9 h10 hnr hn1
 cases x with
 | false =>
  clear hab
  go_enter Tryd.func28, Tryd.ntmps28
  go_wp2_with fail
  refine HI.out.mono ?_
  rintro e w1 ⟨rfl, hw⟩
  subst hw
  go_wp2_with fail
  refine HN1.out.mono ?_
  rintro e w2 ⟨rfl, hw⟩
  subst hw
  go_wp2_with fail
  go_returns
  exact ⟨rfl, rfl⟩
 | true =>
  have hy : y = false := by simpa using hab
  subst hy
  clear hab
  go_enter Tryd.func28, Tryd.ntmps28
  go_wp2_with fail
  refine HI.out.mono ?_
  rintro e w1 ⟨rfl, hw⟩
  subst hw
  go_wp2_with fail
  refine HN1.out.mono ?_
  rintro e w2 ⟨rfl, hw⟩
  subst hw
  go_wp2_with fail
  refine HN2.out.mono ?_
  rintro e w3 ⟨rfl, hw⟩
  subst hw
  go_wp2_with fail
  go_returns
  exact ⟨rfl, rfl⟩
set_option maxRecDepth 100000 in
set_option maxHeartbeats 4000000 in
theorem gof_no (n : Int) (hn : n < 0 ∨ 500 < n) (v : Value) (w : World) : Calls Tryd.prog 16 #[.int .i64 n, v] w fun e w' => e = .returned (.tuple #[.pointer none, .int .i64 2]) ∧ w' = w := by
 have HN := Lib.hid (gnew_no n hn)
 clear hn
 go_enter Tryd.func16, Tryd.ntmps16
 go_wp2_with fail
 refine (HN.out _).mono ?_
 rintro e w1 ⟨rfl, hw⟩
 subst hw
 go_wp2_with fail
 go_returns
 exact ⟨rfl, rfl⟩
set_option maxRecDepth 100000 in
set_option maxHeartbeats 4000000 in
theorem gof_any (n : Nat) (hn : n ≤ 500) (p : Option Addr) (c : Nat) (L : List EdgI) (w : World) (h : HasE w p L) (hL : L.length ≤ 900) : Calls Tryd.prog 16 #[.int .i64 (n : Nat), .slice p L.length c] w fun e w' =>
  (okE n L = true → e = .returned (.tuple #[.pointer (some ⟨w.heap.size, 0, none⟩), .int .i64 0]) ∧ ∃ tb fb T F m, tb.length = n ∧ GrW w' w.heap.size w.heap.size tb fb T F m ∧ ∀ x y : Nat, hasB (T.getD x []) y = decide (((x : Int), (y : Int)) ∈ L)) ∧ (okE n L = false → e = .returned (.tuple #[.pointer none, .int .i64 2])) ∧ Below w.heap.size w w' := by
 have HX := Lib.hid h
 have HN := Lib.hid (gnew_any n hn w)
 clear h
 go_enter Tryd.func16, Tryd.ntmps16
 go_wp2_with fail
 refine HN.out.mono ?_
 rintro e w1 ⟨rfl, ⟨tb, fb, hl1, hl2, hgr⟩, hb1⟩
 have HGr := Lib.hid hgr
 have HL1 := Lib.hid hl1
 have HL2 := Lib.hid hl2
 have HB1 := Lib.hid hb1
 obtain ⟨gb, hgb⟩ : ∃ q, w.heap.size = q := ⟨_, rfl⟩
 have HGb := Lib.hid hgb
 have hgr' : GrW w1 w.heap.size gb tb fb (List.replicate n noB) (List.replicate n noB) 0 := by rw [← hgb]; exact hgr
 have HGr' := Lib.hid hgr'
 clear hgr hgr' hl1 hl2 hb1 HN
 go_wp2_with fail
 try simp only [hgb]
 clear hgb
 go_loopw [22] (fun i wr => ∃ k : Nat, k ≤ L.length ∧ i = .int .i64 k ∧ okE n (L.take k) = true ∧ (∃ T F, GrW wr w.heap.size gb tb fb T F k ∧ ∀ x y : Nat, hasB (T.getD x []) y = decide (((x : Int), (y : Int)) ∈ L.take k)) ∧ Below w.heap.size w wr) (fun i _ => L.length - (RowKit.intOf i).toNat)
 case atStart => exact ⟨0, Nat.zero_le _, rfl, rfl, ⟨_, _, HGr'.out, fun x y => by
  by_cases hx : x < n
  ·rw [show (List.replicate n noB).getD x [] = noB by simp [List.getD, hx], has_no]; simp
  ·rw [show (List.replicate n noB).getD x [] = [] by simp [List.getD, hx]]; simp [hasB]⟩, HB1.out⟩
 case round =>
  obtain ⟨k, hk, rfl, hok, ⟨T, F, hgr, hsp⟩, hbw⟩ := hrel
  by_cases hlt : k < L.length
  ·obtain ⟨gl, rfl, b0, b1⟩ := HX.out k hlt
   have a0 := cell_later hbw b0
   have a1 := cell_later hbw b1
   have htk := take_nextE L k hlt
   have hmem : L.getD k (0, 0) ∈ L := by
    rw [show L.getD k (0, 0) = L[k] by simp [hlt]]
    exact List.getElem_mem _
   obtain ⟨⟨e1, e2⟩, he⟩ : ∃ q, L.getD k (0, 0) = q := ⟨_, rfl⟩
   rw [he] at a0 a1 htk hmem
   dsimp only at a0 a1
   have HBX := Lib.hid (Blk.new wr 39 [.int .i64 e1, .int .i64 e2])
   have hba : Below wr.heap.size wr (wr.alloc (.cells #[.int .i64 e1, .int .i64 e2] 39)) := (Below.refl _ _).alloc (Nat.le_refl _) _
   have HG1 := Lib.hid (hgr.later hba)
   have HBo := Lib.hid (below_next hbw hba)
   have HSp := Lib.hid hsp
   have HOk := Lib.hid hok
   have HTk := Lib.hid htk
   have HMm := Lib.hid hmem
   clear b0 b1 he hgr hsp hbw hok hba htk hmem
   go_upto_region 7 with fail
   obtain ⟨W1, hW1⟩ : ∃ q, wr.alloc (.cells #[.int .i64 e1, .int .i64 e2] 39) = q := ⟨_, rfl⟩
   rw [hW1] at HBX HG1 HBo ⊢
   clear hW1 a0 a1
   have y0 := HBX.out.cell 0 rfl
   have y1 := HBX.out.cell 1 rfl
   cases hg : okG n (e1, e2) with
   | true =>
    obtain ⟨a, b, he, ha, hb⟩ := okG_nat hg
    injection he with he1 he2
    subst he1
    subst he2
    have HP := Lib.hid (gput_any HG1.out HL1.out HL2.out hn a b ha hb (by omega))
    have HOk2 : RowKit.Hid (okE n (L.take (k + 1)) = true) := Lib.hid (by
     have h1 := HOk.out
     unfold okE at h1 ⊢
     rw [HTk.out, List.all_append, h1]
     simp [hg])
    clear hg
    go_wp2_with fail
    refine HP.out.mono ?_
    rintro e w2 ⟨r, T', F', rfl, hgr2, hsp2, hb2⟩
    have HG2 := Lib.hid hgr2
    have HB2 := Lib.hid (HBo.out.trans hb2)
    have HSp2 : RowKit.Hid (∀ x y : Nat, hasB (T'.getD x []) y = decide (((x : Int), (y : Int)) ∈ L.take (k + 1))) := Lib.hid (fun x y => by
     rw [hsp2, HSp.out, HTk.out]
     by_cases e : x = a ∧ y = b
     ·obtain ⟨rfl, rfl⟩ := e
      simp
     ·have h9 : ¬ (((x : Int), (y : Int)) : EdgI) = ((a : Int), (b : Int)) := fun q => e (by
       injection q with q1 q2
       exact ⟨by omega, by omega⟩)
      have h8 : (decide (x = a) && decide (y = b)) = false := by
       by_cases e1 : x = a
       ·have e2 : ¬ y = b := fun q => e ⟨e1, q⟩
        simp [e2]
       ·simp [e1]
      rw [h8, Bool.or_false]
      simp [h9])
    clear hgr2 hsp2 hb2 HP y0 y1
    go_wp2_with fail
    go_roundw
    case rel => exact ⟨k + 1, by omega, by go_num, HOk2.out, ⟨T', F', HG2.out, HSp2.out⟩, HB2.out⟩
    case measure => simp [RowKit.intOf]; omega
   | false =>
    have HP := Lib.hid (gput_no HG1.out HL1.out e1 e2 hg)
    have HNo : RowKit.Hid (okE n L = false) := Lib.hid (by
     unfold okE
     rw [List.all_eq_false]
     exact ⟨(e1, e2), HMm.out, by rw [hg]; exact Bool.false_ne_true⟩)
    clear hg
    go_wp2_with fail
    refine HP.out.mono ?_
    rintro e w2 ⟨rfl, hw⟩
    subst hw
    go_wp2_with fail
    go_returns
    exact ⟨fun q => (by rw [HNo.out] at q; cases q), fun _ => rfl, HBo.out⟩
  ·have hke : k = L.length := by omega
   subst hke
   rw [List.take_length] at hok hsp
   have HOk := Lib.hid hok
   have HSp := Lib.hid hsp
   have HG9 := Lib.hid hgr
   clear hok hsp hgr
   go_wp2_with fail
   go_returns
   refine ⟨fun _ => ⟨by rw [HGb.out] <;> rfl, tb, fb, T, F, L.length, HL1.out, ?_, HSp.out⟩, fun q => (by rw [HOk.out] at q; cases q), hbw⟩
   have h9 := HG9.out
   rw [← HGb.out] at h9
   exact h9
end Go.Proofs.YtldcbapjiflblaaDoor
