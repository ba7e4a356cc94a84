/-
  Layer 20 (part): edges as an argument; the laws' Few; the chapter's example works. No conditions but that math/bits's table is as its initialiser lays it.
-/
import Derived.Test.YtldcbapjiflblaaDoorPxPoA
import Derived.Lib.LaidTab
import Derived.Lib.LaidU8
namespace Go.Proofs.YtldcbapjiflblaaDoor
open Go.ChangeShapes Go.WideShapes Go.ChangeAt Go.RowKit Go.Joins Go.Lib
section
variable {H : Type} {enc : TypeId × Value → H} {w : World} {base : Nat} {spare : Nat → Bool} {held : Bool} {r : Reach} {b0 : Nat} {v : Value} {d : DataW H} {ps : List MemPlace}
theorem open_edge {n : Nat} {cs : List Value} {y : DataW H × List MemPlace} (h : DataW.trod enc Tryd.prog w base spare held n 39 cs = some y) : ∃ s, ValR w cs s := by
 have hl := trod_len Tryd.underlying39 h
 obtain ⟨n0, y0, h0⟩ := trod_at 0 0 3 1 Tryd.underlying39 h rfl rfl rfl (by kernel_rfl)
 obtain ⟨n1, y1, h1⟩ := trod_at 1 1 3 1 Tryd.underlying39 h rfl rfl rfl (by kernel_rfl)
 obtain ⟨k, hk, -, -⟩ := DataW.trod_int Tryd.underlying3 h0
 obtain ⟨m, hm, -, -⟩ := DataW.trod_int Tryd.underlying3 h1
 rw [show Tryd.prog.cellsOf 39 = 2 by kernel_rfl] at hl
 match cs, hl with
 | [a, b], _ =>
  simp at hk hm
  exact ⟨(k, m), by simp [ValR, valCells, hk, hm]⟩
set_option maxRecDepth 100000 in
theorem open_edgesV (hval : Value.okWide Tryd.prog w r b0 22 v) (hd : DataW.Trod enc Tryd.prog w base spare held 22 v d ps) : ∃ L : List EdgI, ValsA w v L := by
 obtain ⟨a0, len0, cap0, rfl⟩ := okWide_slice Tryd.underlying22 hval
 obtain ⟨fuel, hf⟩ := hd
 obtain ⟨v, L, e, h⟩ : ∃ v L, _ = [v] ∧ SlR 2 ValR w v L := open_slR Tryd.underlying22 (by kernel_rfl) (fun _ _ _ h => open_edge h) hf
 simp [Value.cells] at e
 subst e
 exact ⟨L, h⟩
end
theorem edges_at (L : List EdgI) (i : Nat) (hi : i < L.length * 2) : (valsC L)[i]? = some (.int .i64 (if i % 2 = 0 then (L.getD (i / 2) (0, 0)).1 else (L.getD (i / 2) (0, 0)).2)) := by
 induction L generalizing i with
 | nil => exact absurd hi (by simp)
 | cons x r ih =>
  have e : valsC (x :: r) = .int .i64 x.1 :: .int .i64 x.2 :: valsC r := rfl
  rw [e]
  match i with
  | 0 => rfl
  | 1 => rfl
  | i + 2 =>
   rw [List.getElem?_cons_succ, List.getElem?_cons_succ, ih i (by simp at hi; omega), show (i + 2) % 2 = i % 2 by omega, show (i + 2) / 2 = i / 2 + 1 by omega]
   rfl
theorem own_edges {w : World} {B : Nat} {e : TypeId} {v : Value} {L : List EdgI} (h : w.ownsRow B e 2 v L.length (valsC L)) : ∃ p c, v = .slice p L.length c ∧ HasE w p L ∧ ValsA w (.slice p L.length c) L := by
 have hA := own_valsA (L := L) h
 rcases h.2 with ⟨rfl, h0⟩ | ⟨g, c, cur, rfl, -⟩
 ·have e0 : L = [] := List.eq_nil_of_length_eq_zero h0
  subst e0
  exact ⟨none, 0, rfl, fun j hj => absurd hj (Nat.not_lt_zero j), hA⟩
 ·refine ⟨some ⟨g, 0, none⟩, c, rfl, fun j hj => ⟨g, rfl, ?_, ?_⟩, hA⟩
  ·rw [h.cellAt (j * 2) (by omega), edges_at L (j * 2) (by omega), if_pos (by omega), show j * 2 / 2 = j by omega]
  ·rw [h.cellAt (j * 2 + 1) (by omega), edges_at L (j * 2 + 1) (by omega), if_neg (by omega), show (j * 2 + 1) / 2 = j by omega]
theorem info_edgeF : (Tryd.prog.info? 39).map (fun i => (i.zero, i.size, i.bytes)) = some (some (.agg #[.int .i64 0, .int .i64 0]), 2, 16) := by kernel_rfl
theorem run_append_nilE (w : World) (base : Nat) (t ty e : TypeId) (i : TypeInfo) (size c : Nat) (ht : Tryd.prog.underlying t = some (.slice e)) (hi : Tryd.prog.info? e = some i) (v : Value) (n : Nat) (xs : List Value) (hown : w.ownsRow base e size v n xs) :
  (Builtin.append_ #[t, t] ty #[v, .slice none 0 c]).run Tryd.prog w = .ok v w := by
 rcases hown.2 with ⟨rfl, rfl⟩ | ⟨g, cap, cur, rfl, _, _, hnc, _⟩
 ·simp [Builtin.append_, run_underlying ht, sizeOf, typeInfo, hi, Builtin.lenOf, Builtin.firstCells]
 ·simp [Builtin.append_, run_underlying ht, sizeOf, typeInfo, hi, Builtin.lenOf, Builtin.firstCells, hnc, storeCells]
set_option maxRecDepth 100000 in
set_option maxHeartbeats 4000000 in
theorem few19_any (w : World) (v : Value) (L : List EdgI) (hv : ValsA w v L) : Calls Tryd.prog 7 #[v] w fun e w' => ∃ v', e = .returned v' ∧ w'.ownsRow w.heap.size 39 2 v' (L.take 60).length (valsC (L.take 60)) ∧ Below w.heap.size w w' := by
 obtain ⟨p, nl, c, rfl⟩ : ∃ p n c, v = .slice p n c := by obtain ⟨p, c, e, -⟩ := hv; exact ⟨p, _, c, e⟩
 obtain ⟨rfl, hLc, hcm, hpn⟩ := valsA_len hv
 have HPn := Lib.hid hpn
 have HV := Lib.hid hv
 unfold maxLen at hcm
 obtain ⟨i1, hj, hj0, hj1, hj2⟩ := info_parts info_edgeF
 have HA1 := Lib.hid ((Below.refl w.heap.size w).alloc (Nat.le_refl _) (.cells #[] 39))
 have hr0 : (w.alloc (.cells #[] 39)).ownsRow w.heap.size 39 2 (.slice (some ⟨w.heap.size, 0, none⟩) 0 0) 0 [] := World.ownsRow_made (base := w.heap.size) (size := 2) (e := 39) w #[] 0 (Nat.le_refl _) (Nat.zero_le _) rfl
 have HR0 := Lib.hid hr0
 clear hv hr0 hpn
 obtain ⟨T, hT⟩ : ∃ T, L.take 60 = T := ⟨_, rfl⟩
 rw [hT]
 cases p with
 | none =>
  have hL0 := HPn.out rfl
  subst hL0
  have hT0 : T = [] := by rw [← hT]; rfl
  clear hT HPn HV
  go_enter Tryd.func7, Tryd.ntmps7
  go_wp2_with fail
  go_ret
  exact ⟨_, rfl, by rw [hT0]; exact HR0.out, HA1.out⟩
 | some a =>
  have HNw := Lib.hid (fun q u hq => cell_later HA1.out (vals_news HV.out 60 q u hq))
  by_cases h60 : L.length ≤ 60
  ·have hTL : T = L := by rw [← hT]; exact List.take_of_length_le h60
   have hmin : min (L.length : Int) 60 = (L.length : Int) := by omega
   clear HV HPn
   go_enter Tryd.func7, Tryd.ntmps7
   go_wp2_with (at_builtin; refine wpList_append_own _ rfl _ _ 22 rfl w.heap.size 39 i1 (.agg #[.int .i64 0, .int .i64 0]) 2 16 Tryd.underlying22 hj hj0 hj1 hj2 rfl (by decide) _ _ _ rfl HR0.out a L.length c (valsC (L.take 60)) rfl (by rw [valsC_len, hT, hTL]) HNw.out (ones_vals _) (by unfold maxLen; omega) (by omega) HA1.out.size ?_)
   intro v' w4 hown hgr hnil
   have HBf := Lib.hid (HA1.out.grown hgr HA1.out.size (fun k hk => (HR0.out.lt k hk).1))
   try rw [hT] at hown
   try rw [Nat.zero_add, List.nil_append] at hown
   rw [← hTL] at hown
   have HO := Lib.hid hown
   obtain ⟨pv, cv, rfl⟩ := owns_form hown
   clear hT hTL hown hgr hnil HNw
   go_wp2_with fail
   go_ret
   exact ⟨_, rfl, HO.out, HBf.out⟩
  ·have hTL : T.length = 60 := by rw [← hT, List.length_take]; omega
   have hmin : min (L.length : Int) 60 = 60 := by omega
   clear HV HPn
   go_enter Tryd.func7, Tryd.ntmps7
   go_wp2_with (at_builtin; refine wpList_append_own _ rfl _ _ 22 rfl w.heap.size 39 i1 (.agg #[.int .i64 0, .int .i64 0]) 2 16 Tryd.underlying22 hj hj0 hj1 hj2 rfl (by decide) _ _ _ rfl HR0.out a 60 c (valsC (L.take 60)) rfl (by rw [valsC_len, hT, hTL]) HNw.out (ones_vals _) (by unfold maxLen; omega) (by omega) HA1.out.size ?_)
   intro v' w4 hown hgr hnil
   have HBf := Lib.hid (HA1.out.grown hgr HA1.out.size (fun k hk => (HR0.out.lt k hk).1))
   try rw [hT] at hown
   try rw [Nat.zero_add, List.nil_append] at hown
   have HO := Lib.hid hown
   have HTl := Lib.hid hTL
   obtain ⟨pv, cv, rfl⟩ := owns_form hown
   clear hT hTL hown hgr hnil HNw
   go_wp2_with fail
   go_ret
   exact ⟨_, rfl, by rw [HTl.out]; exact HO.out, HBf.out⟩
theorem bruijn_of_reads {P : Program} {W : World} {name : String} {g : Nat} {t e : TypeId} {n : Nat} (hn : P.globalNamed name = some g) (hty : (P.globals[g]?).map (·.type) = some t) (ht : P.underlying t = some (.array n e)) (he : P.underlying e = some (.int .u8)) (hce : P.cellsOf e = 1) (hct : P.cellsOf t = n)
  (h : VarReads P W name (tabData .u8 (Lib.deBruijn64tab.map fun (z : Nat) => (z : Int)))) : TabAt g Lib.deBruijn64tab W ∧ g < W.heap.size := by
 have hc : TabAt g Lib.deBruijn64tab W := fun i hi => by
  obtain ⟨g', t', cs, fuel, p, hg, hty', hvar, hd⟩ := h
  obtain rfl := Option.some.inj (hn.symm.trans hg)
  obtain rfl := Option.some.inj (hty.symm.trans hty')
  have hcs := cells_of_tab ht he hce hct hd
  rw [World.var?_cell hg hvar i, ← Array.getElem?_toList, hcs]
  simp [hi]
 refine ⟨hc, ?_⟩
 have h0 := hc 0 (by decide)
 by_cases hlt : g < W.heap.size
 ·exact hlt
 ·rw [World.cell?, show W.heap[g]? = none from Array.getElem?_eq_none (by omega)] at h0
  simp at h0
def exG : List EdgM := [(0, 1), (1, 0), (1, 2)]
theorem ex_parts : PartsK 3 (EdgL exG) 3 [[0, 1], [2]] := by
 have hlt : ∀ x y, EdgL exG x y → x < 3 ∧ y < 3 := fun x y h => by
  have h' : (x, y) ∈ exG := h
  simp [exG] at h'
  omega
 have h2 : ∀ y, ReachP (EdgL exG) 2 y → y = 2 := fun y hy => ReachP.keep (p := fun x => x = 2) (fun x y hx h => by
  have h' : (x, y) ∈ exG := h
  simp [exG] at h'
  omega) hy rfl
 have hin : ∀ x y, x < 3 → ReachP (EdgL exG) x y → y < 3 := fun x y hx hy => ReachP.keep (p := fun x => x < 3) (fun x y _ h => (hlt x y h).2) hy hx
 have e01 : ReachP (EdgL exG) 0 1 := .inr (.single (by show (0, 1) ∈ exG; simp [exG]))
 have e10 : ReachP (EdgL exG) 1 0 := .inr (.single (by show (1, 0) ∈ exG; simp [exG]))
 have hcl : ∀ x, x < 2 → ∀ y, y ∈ [0, 1] ↔ (ReachP (EdgL exG) x y ∧ ReachP (EdgL exG) y x) := by
  intro x hx y
  constructor
  ·intro hy
   have hy' : y = 0 ∨ y = 1 := by simpa using hy
   have hx' : x = 0 ∨ x = 1 := by omega
   rcases hx' with rfl | rfl <;> rcases hy' with rfl | rfl
   ·exact ⟨.inl rfl, .inl rfl⟩
   ·exact ⟨e01, e10⟩
   ·exact ⟨e10, e01⟩
   ·exact ⟨.inl rfl, .inl rfl⟩
  ·rintro ⟨r1, r2⟩
   have h3 := hin x y (by omega) r1
   have hy2 : y ≠ 2 := fun e => by
    subst e
    have := h2 x r2
    omega
   have : y = 0 ∨ y = 1 := by omega
   simpa using this
 refine ⟨by simp, by simp, fun L hL x hx => ?_, fun x hx => ?_, by simp⟩
 ·rcases List.mem_cons.1 hL with rfl | hL
  ·have hx' : x < 2 := by
    have : x = 0 ∨ x = 1 := by simpa using hx
    omega
   exact ⟨by omega, hcl x hx'⟩
  ·obtain rfl : L = [2] := by simpa using hL
   obtain rfl : x = 2 := by simpa using hx
   refine ⟨by omega, fun y => ⟨fun hy => ?_, fun ⟨r1, _⟩ => ?_⟩⟩
   ·obtain rfl : y = 2 := by simpa using hy
    exact ⟨.inl rfl, .inl rfl⟩
   ·rw [h2 y r1]
    simp
 ·by_cases h : x = 2
  ·exact ⟨[2], by simp, by simp [h]⟩
  ·exact ⟨[0, 1], by simp, by
    have : x = 0 ∨ x = 1 := by omega
    simpa using this⟩
set_option maxRecDepth 100000 in
set_option maxHeartbeats 4000000 in
theorem works20_any (w : World) (hT : TabAt 0 Lib.deBruijn64tab w) (hTg : 0 < w.heap.size) : Calls Tryd.prog 11 #[] w fun e w' => e = .returned (.bool true) ∧ Below w.heap.size w w' := by
 have hA := (Below.refl w.heap.size w).alloc (Nat.le_refl _) (.cells #[.int .i64 0, .int .i64 1, .int .i64 1, .int .i64 0, .int .i64 1, .int .i64 2] 39)
 have hbx := Blk.new w 39 [.int .i64 0, .int .i64 1, .int .i64 1, .int .i64 0, .int .i64 1, .int .i64 2]
 have he : HasE (w.alloc (.cells #[.int .i64 0, .int .i64 1, .int .i64 1, .int .i64 0, .int .i64 1, .int .i64 2] 39)) (some ⟨w.heap.size, 0, none⟩) (intsE exG) := fun j hj => by
  have hj' : j = 0 ∨ j = 1 ∨ j = 2 := by
   have : j < 3 := hj
   omega
  rcases hj' with rfl | rfl | rfl
  ·exact ⟨_, rfl, hbx.cell 0 rfl, hbx.cell 1 rfl⟩
  ·exact ⟨_, rfl, hbx.cell 2 rfl, hbx.cell 3 rfl⟩
  ·exact ⟨_, rfl, hbx.cell 4 rfl, hbx.cell 5 rfl⟩
 have HO := Lib.hid (pof_ok 3 (by omega) (some ⟨w.heap.size, 0, none⟩) 3 exG (by simp [exG]) _ he (by simp [exG]) (fun j hj => cell_later hA (hT j hj)) (Nat.lt_of_lt_of_le hTg hA.size))
 have HA := Lib.hid hA
 clear hT hTg hbx he hA
 go_enter Tryd.func11, Tryd.ntmps11
 go_wp2_with fail
 refine HO.out.mono ?_
 rintro e w1 ⟨p', c', P, rfl, hpk, hps, hb1⟩
 have hP : P = [[0, 1], [2]] := parts_one hpk ex_parts
 subst hP
 have HB1 := Lib.hid (below_next HA.out hb1)
 obtain ⟨g, p0, c0, rfl, a0, h0⟩ := hps 0 (by simp)
 obtain ⟨g', p1, c1, e1, a1, h1⟩ := hps 1 (by simp)
 injection e1 with e1
 injection e1 with e1 _ _
 subst e1
 have b0 : w1.cell? ⟨g, 0, none⟩ = some (.slice p0 2 c0) := a0
 have b1 : w1.cell? ⟨g, 1, none⟩ = some (.slice p1 1 c1) := a1
 have hA1 : Below w1.heap.size w1 (w1.alloc (.cells #[.int .i64 0, .int .i64 1] 3)) := (Below.refl w1.heap.size w1).alloc (Nat.le_refl _) _
 have hx1 := Blk.new w1 3 [.int .i64 0, .int .i64 1]
 have HS1 := Lib.hid (sameo_at (w1.alloc (.cells #[.int .i64 0, .int .i64 1] 3)) p0 (some ⟨w1.heap.size, 0, none⟩) c0 2 [0, 1] [0, 1] (h0.below hA1) (fun j hj => ⟨_, 0, rfl, by
  have hj' : j = 0 ∨ j = 1 := by
   have : j < 2 := hj
   omega
  rcases hj' with rfl | rfl
  ·exact hx1.cell 0 rfl
  ·exact hx1.cell 1 rfl⟩) (by simp))
 have HA1 := Lib.hid hA1
 have H1 := Lib.hid h1
 clear hpk hps hb1 a0 a1 h0 h1 hx1 hA1 HO HA
 go_wp2_with fail
 refine HS1.out.mono ?_
 rintro e w2 ⟨rfl, hb2⟩
 have HB2 := Lib.hid (below_next HA1.out hb2)
 have b1' := cell_later HB2.out b1
 have hA2 : Below w2.heap.size w2 (w2.alloc (.cells #[.int .i64 2] 3)) := (Below.refl w2.heap.size w2).alloc (Nat.le_refl _) _
 have hx2 := Blk.new w2 3 [.int .i64 2]
 have HS2 := Lib.hid (sameo_at (w2.alloc (.cells #[.int .i64 2] 3)) p1 (some ⟨w2.heap.size, 0, none⟩) c1 1 [2] [2] ((H1.out.below HB2.out).below hA2) (fun j hj => ⟨_, 0, rfl, by
  obtain rfl : j = 0 := by
   have : j < 1 := hj
   omega
  exact hx2.cell 0 rfl⟩) (by simp))
 have HB3 := Lib.hid (below_next (below_next HB1.out HB2.out) hA2)
 clear hb2 hx2 hA2 b0 b1 HS1 HA1 H1
 go_wp2_with fail
 refine HS2.out.mono ?_
 rintro e w3 ⟨rfl, hb3⟩
 have HB4 := Lib.hid (below_next HB3.out hb3)
 clear hb3 HS2
 go_wp2_with fail
 go_ret
 exact ⟨rfl, HB4.out⟩
end Go.Proofs.YtldcbapjiflblaaDoor
