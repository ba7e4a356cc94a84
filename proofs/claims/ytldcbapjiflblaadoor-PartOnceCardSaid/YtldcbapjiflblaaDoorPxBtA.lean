/-
  Layer 18 (bits): a set's numbers, rising, walked. No conditions but that math/bits's table is as its initialiser lays it.
-/
import Derived.Test.YtldcbapjiflblaaDoorPxBtW
import Derived.Test.YtldcbapjiflblaaDoorPPc
namespace Go.Proofs.YtldcbapjiflblaaDoor
open Go.RowKit Go.Lib
def vnats (L : List Nat) : List Value := L.map fun (n : Nat) => .int .i64 (n : Int)
theorem vnats_snoc (L : List Nat) (n : Nat) : vnats L ++ [.int .i64 (n : Int)] = vnats (L ++ [n]) := by simp [vnats]
theorem vnats_len (L : List Nat) : (vnats L).length = L.length := by simp [vnats]
theorem vnats_at (L : List Nat) (i : Nat) (hi : i < L.length) : (vnats L)[i]? = some (.int .i64 ((L.getD i 0 : Nat) : Int)) := by simp [vnats, hi]
theorem vnats_set (L : List Nat) (i n : Nat) : (vnats L).set i (.int .i64 (n : Int)) = vnats (L.set i n) := by simp [vnats, List.map_set]
theorem ones_nat (n : Nat) : ∀ u ∈ ([.int .i64 (n : Int)] : List Value), u.oneCell' = true := by
 intro u hu
 simp at hu
 subst hu
 rfl
theorem info_nat : (Tryd.prog.info? 3).map (fun i => (i.zero, i.size, i.bytes)) = some (some (.int .i64 0), 1, 8) := by kernel_rfl
theorem owns_keptP {w w1 : World} {B size n : Nat} {e : TypeId} {v : Value} {xs : List Value} (h : w.ownsRow B e size v n xs) (hb : Below w.heap.size w w1) : w1.ownsRow B e size v n xs := owns_later h hb
theorem load_set {w : World} {b : Nat} {W : List Nat} (h : SetW w b W) : (loadVar 91 ⟨b, 0, none⟩).run Tryd.prog w = .ok (.agg (wordsB W).toArray) w := by
 have hr : w.rangeAt b 0 (wordsB W) := fun j v hj => by rw [Nat.zero_add]; exact h.1.cell j hj
 exact run_loadVar_mid (P := Tryd.prog) w b 0 91 (wordsB W) _ hr Tryd.underlying91 rfl (by
  rw [show (wordsB W).length = 8 by rw [wordsB, List.length_map]; exact h.2.1]
  kernel_rfl)
theorem index_set (W : List Nat) (k : Nat) (hk : k < 8) (hl : W.length = 8) (w : World) : (Instr.index 91 (.agg (wordsB W).toArray) (.int .i64 (k : Nat))).run Tryd.prog w = .ok (.int .u64 ((W.getD k 0 : Nat) : Int)) w := by
 have h1 := wordsB_at W k (by omega)
 simp [Instr.index, run_underlying Tryd.underlying91, asIntOf, go_sem]
 rw [if_pos hk, h1]
 simp
set_option maxRecDepth 100000 in
set_option maxHeartbeats 4000000 in
theorem ball_any (b : Nat) (W : List Nat) (w : World) (h : SetW w b W) (hT : TabAt 0 Lib.deBruijn64tab w) : Calls Tryd.prog 56 #[.pointer (some ⟨b, 0, none⟩)] w fun e w' => ∃ v', e = .returned v' ∧ w'.ownsRow w.heap.size 3 1 v' (allB W).length (vnats (allB W)) ∧ Below w.heap.size w w' := by
 obtain ⟨i0, hi, hz0, hz1, hz2⟩ := info_parts info_nat
 have hl := h.2.1
 obtain ⟨a0, a1, a2, a3, a4, a5, a6, a7, hW⟩ : ∃ a0 a1 a2 a3 a4 a5 a6 a7, W = [a0, a1, a2, a3, a4, a5, a6, a7] := by
  match W, hl with
  | [a0, a1, a2, a3, a4, a5, a6, a7], _ => exact ⟨a0, a1, a2, a3, a4, a5, a6, a7, rfl⟩
 have HSm := Lib.hid h.2.2
 have HIx : RowKit.Hid (∀ k, k < 8 → ∀ w, (Instr.index 91 (.agg #[.int .u64 (a0 : Nat), .int .u64 (a1 : Nat), .int .u64 (a2 : Nat), .int .u64 (a3 : Nat), .int .u64 (a4 : Nat), .int .u64 (a5 : Nat), .int .u64 (a6 : Nat), .int .u64 (a7 : Nat)]) (.int .i64 (k : Nat))).run Tryd.prog w = .ok (.int .u64 ((W.getD k 0 : Nat) : Int)) w) := Lib.hid (fun k hk w => by
  have h1 := index_set W k hk hl w
  rw [show (wordsB W).toArray = #[.int .u64 (a0 : Nat), .int .u64 (a1 : Nat), .int .u64 (a2 : Nat), .int .u64 (a3 : Nat), .int .u64 (a4 : Nat), .int .u64 (a5 : Nat), .int .u64 (a6 : Nat), .int .u64 (a7 : Nat)] by rw [hW]; rfl] at h1
  exact h1)
 have HTz : RowKit.Hid (∀ (x : Nat), x < 18446744073709551616 → ∀ w', Below w.heap.size w w' → Calls Tryd.prog 64 #[.int .u64 x] w' fun e w1 => e = .returned (.int .i64 (Lib.ctz 64 x)) ∧ w1 = w') := Lib.hid (fun x hx w' hb => Any7.bits_TrailingZeros64 Tryd.laysTz x hx w' (fun _ j hj => cell_later hb (hT j hj)))
 have HAl : RowKit.Hid (upB W 8 = allB W) := Lib.hid (by rw [all_up, hl])
 have HLn := Lib.hid hl
 have c0 := h.1.cell 0 (v := .int .u64 (a0 : Nat)) (by rw [hW]; rfl)
 have c1 := h.1.cell 1 (v := .int .u64 (a1 : Nat)) (by rw [hW]; rfl)
 have c2 := h.1.cell 2 (v := .int .u64 (a2 : Nat)) (by rw [hW]; rfl)
 have c3 := h.1.cell 3 (v := .int .u64 (a3 : Nat)) (by rw [hW]; rfl)
 have c4 := h.1.cell 4 (v := .int .u64 (a4 : Nat)) (by rw [hW]; rfl)
 have c5 := h.1.cell 5 (v := .int .u64 (a5 : Nat)) (by rw [hW]; rfl)
 have c6 := h.1.cell 6 (v := .int .u64 (a6 : Nat)) (by rw [hW]; rfl)
 have c7 := h.1.cell 7 (v := .int .u64 (a7 : Nat)) (by rw [hW]; rfl)
 clear h hT hl hW
 go_enter Tryd.func56, Tryd.ntmps56
 go_wp2_with fail
 clear c0 c1 c2 c3 c4 c5 c6 c7
 go_loopw [3, 12] (fun l i wr => ∃ k : Nat, k ≤ 8 ∧ i = .int .i64 k ∧ wr.ownsRow w.heap.size 3 1 l (upB W k).length (vnats (upB W k)) ∧ Below w.heap.size w wr) (fun _ i _ => 8 - (RowKit.intOf i).toNat)
 case atStart => exact ⟨0, Nat.zero_le _, rfl, World.ownsRow_nil _ _ _ _, Below.refl _ _⟩
 case round =>
  obtain ⟨k, hk, rfl, hown, hbw⟩ := hrel
  by_cases hlt : k < 8
  ·have hix := HIx.out k hlt
   have hlti : (k : Int) < 8 := by omega
   have hnx := up_next W k
   have hul : (upB W k).length ≤ k * 64 := by
    have := List.length_filter_le (hasB W) (List.range (k * 64))
    rwa [List.length_range] at this
   have hxs : W.getD k 0 < 18446744073709551616 := by
    have hl := HLn.out
    rw [show W.getD k 0 = W[k] by simp [show k < W.length by omega]]
    exact HSm.out _ (List.getElem_mem _)
   obtain ⟨x0, hx0⟩ : ∃ x, W.getD k 0 = x := ⟨_, rfl⟩
   rw [hx0] at hix hnx hxs
   obtain ⟨U, hU⟩ : ∃ U, upB W k = U := ⟨_, rfl⟩
   rw [hU] at hown hnx hul
   have HNx := Lib.hid hnx
   have HO := Lib.hid hown
   have HB := Lib.hid hbw
   clear hx0 hU hnx hown hbw
   go_wp2_with fail
   clear hix
   obtain ⟨wo, rfl⟩ : ∃ q, q = wr := ⟨_, rfl⟩
   go_loopw [3, 5] (fun l y wi => ∃ (A : List Nat) (x : Nat), y = .int .u64 (x : Nat) ∧ x < 18446744073709551616 ∧ U ++ (onesB x0).map (k * 64 + ·) = A ++ (onesB x).map (k * 64 + ·) ∧ wi.ownsRow w.heap.size 3 1 l A.length (vnats A) ∧ Below w.heap.size w wi) (fun _ y _ => (RowKit.intOf y).toNat)
   case atStart => exact ⟨U, x0, rfl, hxs, rfl, HO.out, HB.out⟩
   case round =>
    obtain ⟨A, x, rfl, hx, hA, hown, hbw⟩ := hrel
    by_cases h0 : x = 0
    ·subst h0
     rw [ones_zero, List.map_nil, List.append_nil] at hA
     have HA := Lib.hid hA
     have HO2 := Lib.hid hown
     clear hA hown
     go_wp2_with fail
     go_roundw
     case rel => exact ⟨k + 1, by omega, by go_num, by rw [HNx.out, HA.out]; exact HO2.out, hbw⟩
     case measure => simp [RowKit.intOf]; omega
    ·have hb0 : ((x : Int) == 0) = false := by
      rw [beq_eq_false_iff_ne]
      omega
     have hAl : A.length ≤ 1000 := by
      have h1 := congrArg List.length hA
      rw [List.length_append, List.length_append, List.length_map, List.length_map] at h1
      have h2 := ones_len x0
      omega
     obtain ⟨hc1, hc2, hc3, hc4⟩ := ctz_bits x h0 hx
     rw [ones_next x h0 hx, List.map_cons] at hA
     have hTz := HTz.out x hx _ hbw
     have hxl := and_pred_lt x h0
     obtain ⟨c, hcc⟩ : ∃ c, ctz 64 x = c := ⟨_, rfl⟩
     rw [hcc] at hA hTz hc1
     obtain ⟨y, hy⟩ : ∃ y, x &&& (x - 1) = y := ⟨_, rfl⟩
     rw [hy] at hA hxl
     have e1 : IntKind.u64.wrap ((x : Int) - 1) = ((x - 1 : Nat) : Int) := by rw [IntKind.wrap_u64]; omega
     have e2 : bits .and .u64 (x : Int) ((x - 1 : Nat) : Int) = (y : Int) := by rw [← hy]; exact u64_and_nat x (x - 1) hx (by omega)
     have e3 : IntKind.i64.wrap ((k : Int) * 64) = ((k * 64 : Nat) : Int) := by rw [IntKind.wrap_i64]; omega
     have e4 : IntKind.i64.wrap (((k * 64 : Nat) : Int) + (c : Int)) = ((k * 64 + c : Nat) : Int) := by rw [IntKind.wrap_i64]; omega
     have hA2 : U ++ (onesB x0).map (k * 64 + ·) = (A ++ [k * 64 + c]) ++ (onesB y).map (k * 64 + ·) := by rw [hA]; simp
     generalize x - 1 = x1 at e1 e2
     generalize k * 64 + c = t at e4 hA2
     obtain ⟨kk, hkk⟩ : ∃ q, k * 64 = q := ⟨_, rfl⟩
     rw [hkk] at e3 e4
     clear hkk
     have HA := Lib.hid hA2
     clear hA hA2 hc2 hc3 hc4 hcc hy
     have HT1 := Lib.hid hTz
     have HY : RowKit.Hid (y < x ∧ y < 18446744073709551616) := Lib.hid ⟨hxl, by omega⟩
     clear hTz hxl
     go_wp2_with fail
     refine HT1.out.mono ?_
     rintro e w1 ⟨rfl, hw⟩
     subst hw
     clear HT1
     go_wp2_with (at_builtin; refine wpList_append_own _ rfl _ _ 29 rfl w.heap.size 3 i0 (.int .i64 0) 1 8 Tryd.underlying29 hi hz0 hz1 hz2 rfl (by decide) _ _ _ rfl (hown.alloc _) ⟨w1.heap.size, 0, none⟩ 1 1 [.int .i64 (t : Nat)] rfl rfl (news_lit w1 [.int .i64 (t : Nat)] _ _ rfl) (ones_nat _) (by unfold maxLen; omega) (by omega) (by have := hbw.size; simp; omega) ?_)
     intro v' w4 hown4 hgrow hnil
     have hb4 : Below w.heap.size w w4 := (hbw.alloc hbw.size _).grown hgrow (by have := hbw.size; simp; omega) (fun k hk => (hown.lt k hk).1)
     have HO3 : RowKit.Hid (w4.ownsRow w.heap.size 3 1 v' (A ++ [t]).length (vnats (A ++ [t]))) := Lib.hid (by
      rw [← vnats_snoc, List.length_append]
      exact hown4)
     clear hown4 hgrow hnil hown hbw
     go_wp2_with fail
     go_roundw
     case rel => exact ⟨A ++ [t], y, rfl, HY.out.2, HA.out, HO3.out, hb4⟩
     case measure => have := HY.out.1; simp [RowKit.intOf]; omega
  ·have hke : k = 8 := by omega
   subst hke
   rw [HAl.out] at hown
   go_wp2_with fail
   go_ret
   exact ⟨_, rfl, hown, hbw⟩
end Go.Proofs.YtldcbapjiflblaaDoor
