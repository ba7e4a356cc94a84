/-
  Layer 20 (part): the document's From, walked. No conditions.
-/
import Derived.Test.YtldcbapjiflblaaDoorPxPtF
import Derived.Test.YtldcbapjiflblaaDoorPxGrD
import Derived.Test.YtldcbapjiflblaaDoorPxFiG
import Derived.Laws.MakeOwn
namespace Go.Proofs.YtldcbapjiflblaaDoor
open Go.RowKit Go.Lib
def intsE (N : List EdgM) : List EdgI := N.map fun e => ((e.1 : Int), (e.2 : Int))
theorem intsE_at (N : List EdgM) (j : Nat) : (intsE N).getD j (0, 0) = (((N.getD j (0, 0)).1 : Int), ((N.getD j (0, 0)).2 : Int)) := by
 simp only [intsE, List.getD_eq_getElem?_getD, List.getElem?_map]
 cases N[j]? <;> rfl
theorem intsE_len (N : List EdgM) : (intsE N).length = N.length := by simp [intsE]
def measF (n : Nat) (more : Bool) (I : List Bool) : Nat := if more then n - cntF I + 1 else 0
def vbl (I : List Bool) : List Value := I.map fun b => .bool b
theorem vbl_at (I : List Bool) (i : Nat) (hi : i < I.length) : (vbl I)[i]? = some (.bool (I.getD i false)) := by simp [vbl, hi]
theorem vbl_set (I : List Bool) (i : Nat) (b : Bool) : (vbl I).set i (.bool b) = vbl (I.set i b) := by simp [vbl, List.map_set]
theorem made_vbl (n : Nat) : madeCells #[.bool false] n = (vbl (List.replicate n false)).toArray := by
 apply Array.ext
 ·simp [madeCells, vbl]
 ·intro i h1 h2
  simp [madeCells, vbl, Nat.mod_one]
theorem info_boolP : (Tryd.prog.info? 4).map (fun i => (i.zero, i.size, i.bytes)) = some (some (.bool false), 1, 1) := by kernel_rfl
set_option maxRecDepth 100000 in
set_option maxHeartbeats 4000000 in
theorem rfrom_any (n : Nat) (hn : n ≤ 500) (p : Option Addr) (c : Nat) (N : List EdgM) (hN : ∀ e ∈ N, e.1 < n ∧ e.2 < n) (a : Nat) (w : World) (h : HasE w p (intsE N)) (hL : N.length ≤ 900) :
  Calls Tryd.prog 21 #[.int .i64 (n : Nat), .slice p N.length c, .int .i64 (a : Nat)] w fun e w' => ∃ v', e = .returned v' ∧ w'.ownsRow (w.heap.size + 1) 3 1 v' (fromF n N a).length (vnats (fromF n N a)) ∧ Below w.heap.size w w' := by
 have HX := Lib.hid h
 have HN := Lib.hid hN
 obtain ⟨i0, hi, hz0, hz1, hz2⟩ := info_parts info_boolP
 obtain ⟨i1, hj, hj0, hj1, hj2⟩ := info_parts info_nat
 have mk1 : ∀ W : World, (Instr.makeSlice 44 (.int .i64 (n : Int)) (.int .i64 (n : Int))).run Tryd.prog W = .ok (.slice (some ⟨W.heap.size, 0, none⟩) n n) (W.alloc (.cells (madeCells (Value.cells (.bool false)) (n * 1)) 4)) := fun W => by
  have hr := run_make (P := Tryd.prog) W 44 4 i0 (.bool false) Tryd.underlying44 hi hz0 .i64 .i64 n n (by omega) (Int.le_refl _) (by rw [hz2]; omega) (by omega)
  rw [hz1] at hr
  simpa only [Int.toNat_natCast] using hr
 have hb0 := Blk.new w 4 (vbl (List.replicate n false))
 rw [← made_vbl] at hb0
 have HB0 := Lib.hid hb0
 have HA0 := Lib.hid ((Below.refl w.heap.size w).alloc (Nat.le_refl _) (.cells (madeCells #[.bool false] n) 4))
 clear h hN hb0 hi hz0 hz1 hz2
 obtain ⟨bi, hbi⟩ : ∃ q, w.heap.size = q := ⟨_, rfl⟩
 have HBi := Lib.hid hbi
 have hbB : w.heap.size ≤ bi := by omega
 rw [hbi] at HB0
 go_enter Tryd.func21, Tryd.ntmps21
 go_wp2_with fail
 try simp only [hbi]
 clear mk1 hbi
 go_loopw [8, 9, 10] (fun m8 f9 _ wr => ∃ more first I, m8 = .bool more ∧ f9 = .bool first ∧ InvF n N a more first I ∧ Blk wr bi 4 (vbl I) ∧ Below w.heap.size w wr) (fun m8 _ _ wr => minOf fun k => ∃ more first I, m8 = .bool more ∧ InvF n N a more first I ∧ Blk wr bi 4 (vbl I) ∧ measF n more I = k)
 case atStart => exact ⟨true, true, _, rfl, rfl, invF_start n N a, by have h9 := HB0.out; rw [made_vbl] at h9 ⊢; exact h9, by rw [made_vbl]; have h9 := HA0.out; rw [made_vbl] at h9; exact h9⟩
 case round =>
  obtain ⟨more, first, I, rfl, rfl, hI, hB, hbw⟩ := hrel
  obtain ⟨M, hM⟩ : ∃ M, minOf (fun k => ∃ more' first I, (.bool more : Value) = .bool more' ∧ InvF n N a more' first I ∧ Blk wr bi 4 (vbl I) ∧ measF n more' I = k) = M := ⟨_, rfl⟩
  have hex : ∃ first I, InvF n N a more first I ∧ Blk wr bi 4 (vbl I) ∧ measF n more I = M := by
   rw [← hM]
   obtain ⟨m2, f2, I2, e2, h2, h3, h4⟩ := minOf_at (P := fun k => ∃ more' first I, (.bool more : Value) = .bool more' ∧ InvF n N a more' first I ∧ Blk wr bi 4 (vbl I) ∧ measF n more' I = k) ⟨_, more, first, I, rfl, hI, hB, rfl⟩
   injection e2 with e2
   subst e2
   exact ⟨f2, I2, h2, h3, h4⟩
  have HM := Lib.hid hM
  cases more with
  | false =>
   have hfe := from_end hI n
   have hIl := hI.len
   have HFe : RowKit.Hid ((List.range n).filter (fun b => I.getD b false) = fromF n N a) := Lib.hid hfe
   have hblt : bi < wr.heap.size := hB.lt
   have hbs : w.heap.size + 1 ≤ wr.heap.size := by have := HBi.out; omega
   have HA1 := Lib.hid (hbw.alloc hbw.size (.cells #[] 3))
   have HB1 := Lib.hid (hB.alloc (.cells #[] 3))
   have HR1 := Lib.hid (World.ownsRow_made (base := w.heap.size + 1) (size := 1) (e := 3) wr #[] 0 hbs (Nat.zero_le _) rfl)
   clear hfe hM hex hI hB hbw HM
   go_wp2_with fail
   obtain ⟨wo, rfl⟩ : ∃ q, q = wr := ⟨_, rfl⟩
   go_loopw [11, 12] (fun o i wx => ∃ k : Nat, k ≤ n ∧ i = .int .i64 k ∧ wx.ownsRow (w.heap.size + 1) 3 1 o ((List.range k).filter fun b => I.getD b false).length (vnats ((List.range k).filter fun b => I.getD b false)) ∧ Blk wx bi 4 (vbl I) ∧ Below w.heap.size w wx ∧ w.heap.size + 1 ≤ wx.heap.size) (fun _ i _ => n - (RowKit.intOf i).toNat)
   case atStart => exact ⟨0, Nat.zero_le _, rfl, HR1.out, HB1.out, HA1.out, by simp; omega⟩
   case round =>
    obtain ⟨k, hk, rfl, hown, hB, hbw, hsz⟩ := hrel
    have hfl : ((List.range k).filter fun b => I.getD b false).length ≤ 500 := by
     have h1 := List.length_filter_le (fun b => I.getD b false) (List.range k)
     rw [List.length_range] at h1
     omega
    by_cases hlt : k < n
    ·have d1 := hB.cell k (vbl_at I k (by omega))
     have hnx : (List.range (k + 1)).filter (fun b => I.getD b false) = (List.range k).filter (fun b => I.getD b false) ++ (if I.getD k false then [k] else []) := by
      rw [List.range_succ, List.filter_append]
      congr 1
      simp only [List.filter_cons, List.filter_nil]
     obtain ⟨t, ht⟩ : ∃ q, I.getD k false = q := ⟨_, rfl⟩
     rw [ht] at d1 hnx
     obtain ⟨A, hA⟩ : ∃ A, (List.range k).filter (fun b => I.getD b false) = A := ⟨_, rfl⟩
     rw [hA] at hown hnx hfl
     have HBk := Lib.hid hB
     have HBw := Lib.hid hbw
     clear ht hA hB hbw
     cases t with
     | false =>
      simp only [Bool.false_eq_true, if_false, List.append_nil] at hnx
      have HNx := Lib.hid hnx
      have HO := Lib.hid hown
      clear hnx hown
      go_wp2_with fail
      go_roundw
      case rel => exact ⟨k + 1, by omega, by go_num, by rw [HNx.out]; exact HO.out, HBk.out, HBw.out, hsz⟩
      case measure => simp [RowKit.intOf]; omega
     | true =>
      simp only [if_true] at hnx
      have HNx := Lib.hid hnx
      have hrow := hown.alloc (.cells #[.int .i64 (k : Nat)] 3)
      clear hnx hown
      go_wp2_with (at_builtin; refine wpList_append_own _ rfl _ _ 29 rfl (w.heap.size + 1) 3 i1 (.int .i64 0) 1 8 Tryd.underlying29 hj hj0 hj1 hj2 rfl (by decide) _ _ _ rfl hrow ⟨wr.heap.size, 0, none⟩ 1 1 [.int .i64 (k : Nat)] rfl rfl (news_lit wr [.int .i64 (k : Nat)] _ _ rfl) (ones_nat _) ?_ ?_ (Nat.le_trans hsz (by simp)) ?_)
      ·unfold maxLen
       omega
      ·omega
      intro v' w4 hown4 hgrow hnil
      have hb4 : Below w.heap.size w w4 := (HBw.out.alloc HBw.out.size _).grown hgrow (Nat.le_trans HBw.out.size (by simp)) (fun q hq => Nat.le_of_succ_le (hrow.lt q hq).1)
      have HB4 := Lib.hid hb4
      have HBk4 := Lib.hid (box_grown (HBk.out.alloc _) hrow (by decide) hgrow)
      have hsz4 : w.heap.size + 1 ≤ w4.heap.size := Nat.le_trans hsz (Nat.le_trans (by simp) hgrow.size)
      have HO : RowKit.Hid (w4.ownsRow (w.heap.size + 1) 3 1 v' (A ++ [k]).length (vnats (A ++ [k]))) := Lib.hid (by
       rw [← vnats_snoc, List.length_append]
       exact hown4)
      clear hown4 hgrow hnil hrow hb4
      go_wp2_with fail
      go_roundw
      case rel => exact ⟨k + 1, by omega, by go_num, by rw [HNx.out]; exact HO.out, HBk4.out, HB4.out, hsz4⟩
      case measure => simp [RowKit.intOf]; omega
    ·have hke : k = n := by omega
     subst hke
     rw [HFe.out] at hown
     have HO := Lib.hid hown
     clear hown
     go_wp2_with fail
     go_ret
     exact ⟨_, rfl, HO.out, hbw⟩
  | true =>
   obtain ⟨f2, I2, -, hB2, hms⟩ := hex
   have hI2 : I2 = I := by
    have h1 : (some (.cells (vbl I2).toArray 4 (0, 0)) : Option Obj) = some (.cells (vbl I).toArray 4 (0, 0)) := hB2.symm.trans hB
    injection h1 with h1
    injection h1 with h1
    have h2 : vbl I2 = vbl I := by simpa using h1
    have h3 : ∀ (A C : List Bool), vbl A = vbl C → A = C := by
     intro A
     induction A with
     | nil =>
      intro C hC
      cases C with
      | nil => rfl
      | cons x C => cases hC
     | cons y A ih =>
      intro C hC
      cases C with
      | nil => cases hC
      | cons x C =>
       injection hC with q1 q2
       injection q1 with q1
       rw [q1, ih C q2]
    exact h3 _ _ h2
   subst hI2
   have HMs := Lib.hid hms
   have HI := Lib.hid hI
   have hIl := hI.len
   clear hM hms hI hB2 f2
   go_wp2_with fail
   obtain ⟨wo, rfl⟩ : ∃ q, q = wr := ⟨_, rfl⟩
   go_loopw [8, 10] (fun m8 i wx => ∃ k : Nat, k ≤ N.length ∧ i = .int .i64 k ∧ m8 = .bool (passF N a first I2 k).2 ∧ Blk wx bi 4 (vbl (passF N a first I2 k).1) ∧ Below w.heap.size w wx) (fun _ i _ => N.length - (RowKit.intOf i).toNat)
   case atStart => exact ⟨0, Nat.zero_le _, rfl, rfl, hB, hbw⟩
   case round =>
    obtain ⟨k, hk, rfl, rfl, hB, hbw⟩ := hrel
    by_cases hlt : k < N.length
    ·obtain ⟨gl, rfl, b0, b1⟩ := HX.out k (by rw [intsE_len]; exact hlt)
     rw [intsE_at] at b0 b1
     have c0 := cell_later hbw b0
     have c1 := cell_later hbw b1
     have hnx := pass_next N a first I2 k hlt
     have hJl := pass_len N a first I2 k hk
     have hmem := HN.out (N.getD k (0, 0)) (by rw [show N.getD k (0, 0) = N[k] by simp [hlt]]; exact List.getElem_mem _)
     obtain ⟨⟨e1, e2⟩, he⟩ : ∃ e, N.getD k (0, 0) = e := ⟨_, rfl⟩
     rw [he] at c0 c1 hnx hmem
     obtain ⟨sx, hsx⟩ : ∃ q, passF N a first I2 k = q := ⟨_, rfl⟩
     rw [hsx] at hB hnx hJl ⊢
     obtain ⟨J, md⟩ := sx
     dsimp only at c0 c1 hB hJl hmem ⊢
     obtain ⟨he1, he2⟩ := hmem
     have d1 := hB.cell e1 (vbl_at J e1 (by omega))
     have d2 := hB.cell e2 (vbl_at J e2 (by omega))
     have f2 := hB.frozen e2
     unfold stepF newF at hnx
     dsimp only at hnx
     obtain ⟨y1, hy1⟩ : ∃ q, J.getD e1 false = q := ⟨_, rfl⟩
     obtain ⟨y2, hy2⟩ : ∃ q, J.getD e2 false = q := ⟨_, rfl⟩
     rw [hy1] at d1 hnx
     rw [hy2] at d2 hnx
     have HBk := Lib.hid hB
     have HBw := Lib.hid hbw
     have HSb := Lib.hid (hB.set e2 (.bool true))
     have HBs := Lib.hid (hbw.setCell (p := ⟨bi, e2, none⟩) hbB (.bool true))
     clear b0 b1 he hsx hy1 hy2 hJl hB hbw
     obtain ⟨z, hz⟩ : ∃ q, decide (e1 = a) = q := ⟨_, rfl⟩
     rw [hz] at hnx
     have hzb : ((e1 : Int) == (a : Int)) = z := by
      rw [← hz]
      by_cases q : e1 = a
      ·simp [q]
      ·have q2 : ¬ (e1 : Int) = (a : Int) := by omega
       simp [q, q2]
     clear hz
     cases z <;> cases first <;> cases y1 <;> cases y2
     all_goals
      simp at hnx
      have HNx := Lib.hid hnx
      clear hnx
      go_wp2_with fail
      go_roundw
      case rel => first | exact ⟨k + 1, by omega, by go_num, by rw [HNx.out], by rw [HNx.out]; exact HBk.out, HBw.out⟩ | exact ⟨k + 1, by omega, by go_num, by rw [HNx.out], by rw [HNx.out, ← vbl_set]; exact HSb.out, HBs.out⟩
      case measure => simp [RowKit.intOf]; omega
    ·have hke : k = N.length := by omega
     subst hke
     have hnx := invF_next HN.out HI.out
     have hcn := (pass_cnt N a first I2 (by rw [hIl]; exact HN.out) N.length (Nat.le_refl _)).2
     have hlt2 : measF n (passF N a first I2 N.length).2 (passF N a first I2 N.length).1 < M := by
      rw [← HMs.out]
      unfold measF
      cases hq : (passF N a first I2 N.length).2 with
      | false => simp
      | true =>
       have h1 := hcn hq
       have h2 := cnt_le (passF N a first I2 N.length).1
       have h3 := hnx.len
       simp
       omega
     have HNx := Lib.hid hnx
     have HBk := Lib.hid hB
     have HBw := Lib.hid hbw
     have HLt := Lib.hid hlt2
     obtain ⟨sx, hsx⟩ : ∃ q, passF N a first I2 N.length = q := ⟨_, rfl⟩
     rw [hsx] at HNx HBk HLt ⊢
     obtain ⟨J, md⟩ := sx
     dsimp only at HNx HBk HLt ⊢
     clear hnx hcn hlt2 hB hbw hsx
     go_wp2_with fail
     go_roundw
     case rel => exact ⟨md, false, J, rfl, rfl, HNx.out, HBk.out, HBw.out⟩
     case measure =>
      rw [HM.out]
      exact Nat.lt_of_le_of_lt (minOf_le (P := fun k => ∃ more' first I, (.bool md : Value) = .bool more' ∧ InvF n N a more' first I ∧ Blk _ bi 4 (vbl I) ∧ measF n more' I = k) ⟨md, false, J, rfl, HNx.out, HBk.out, rfl⟩) HLt.out
end Go.Proofs.YtldcbapjiflblaaDoor
