/-
  A history as an argument whose values' numbers are Go's: its reading says so. No conditions.
-/
import Derived.Test.YthgbfaoblnkniaaGreatDoorZg
import Derived.Test.YthgbfaoblnkniaaGreatDoorZa
import Derived.Test.YthgbfaoblnkniaaGreatDoorZxHFew
import Derived.Test.YthgbfaoblnkniaaGreatDoorZv
namespace Go.Proofs.YthgbfaoblnkniaaGreatDoor
open Go.ChangeShapes Go.WideShapes Go.ChangeAt Go.RowKit Go.Joins
theorem num_few {h : HistM} (hn : NumH h) : NumH (fewH h) := by
 intro t ht o ho
 obtain ⟨u, hu, rfl⟩ := List.mem_map.1 (show t ∈ (h.2.2.take 45).map cutTxn from ht)
 exact hn u (List.mem_of_mem_take hu) o (List.mem_of_mem_take (show o ∈ u.2.2.take 25 from ho))
def OpRN (w : World) (cs : List Value) (o : OpM) : Prop := OpR w cs o ∧ -9223372036854775808 ≤ o.2.2.2 ∧ o.2.2.2 ≤ 9223372036854775807
def TxnRN (w : World) (cs : List Value) (t : TxnM) : Prop := TxnR w cs t ∧ ∀ o ∈ t.2.2, -9223372036854775808 ≤ o.2.2.2 ∧ o.2.2.2 ≤ 9223372036854775807
theorem slR_all {α : Type} {size : Nat} {R : World → List Value → α → Prop} {w : World} {v : Value} {L : List α} (h : SlR size R w v L) : ∀ x ∈ L, ∃ cs, R w cs x := by
 obtain ⟨p, cap, -, -, -, hc⟩ := h
 intro x hx
 obtain ⟨j, hj, rfl⟩ := List.getElem_of_mem hx
 obtain ⟨a, cs, -, -, -, h2⟩ := hc j hj
 exact ⟨cs, h2⟩
section
variable {H : Type} {enc : TypeId × Value → H} {w : World} {base : Nat} {spare : Nat → Bool} {held : Bool}
theorem open_opN {n : Nat} {cs : List Value} {y : DataW H × List MemPlace} (h : DataW.trod enc Tryz.prog w base spare held n 50 cs = some y) : ∃ o, OpRN w cs o := by
 have hl := trod_len Tryz.underlying50 h
 obtain ⟨n0, y0, h0⟩ := trod_at 0 0 4 1 Tryz.underlying50 h rfl rfl rfl (by kernel_rfl)
 obtain ⟨n1, y1, h1⟩ := trod_at 1 1 3 1 Tryz.underlying50 h rfl rfl rfl (by kernel_rfl)
 obtain ⟨n2, y2, h2⟩ := trod_at 2 2 45 2 Tryz.underlying50 h rfl rfl rfl (by kernel_rfl)
 obtain ⟨m0, z0, g0⟩ := trod_at 0 0 3 1 Tryz.underlying45 h2 rfl rfl rfl (by kernel_rfl)
 obtain ⟨m1, z1, g1⟩ := trod_at 1 1 2 1 Tryz.underlying45 h2 rfl rfl rfl (by kernel_rfl)
 obtain ⟨b, hb, -⟩ := DataW.trod_bool Tryz.underlying4 h0
 obtain ⟨k, hk, -, -⟩ := DataW.trod_int Tryz.underlying3 h1
 obtain ⟨vk, hvk, -, -⟩ := DataW.trod_int Tryz.underlying3 g0
 obtain ⟨vn, hvn, -, wn⟩ := DataW.trod_int Tryz.underlying2 g1
 have hr := wf_bounds wn
 rw [show Tryz.prog.cellsOf 50 = 4 by kernel_rfl] at hl
 match cs, hl with
 | [c0, c1, c2, c3], _ =>
  simp at hb hk hvk hvn
  exact ⟨(b, k, vk, vn), by simp [OpR, opCells, hb, hk, hvk, hvn], hr.1, hr.2⟩
theorem open_txnN {n : Nat} {cs : List Value} {y : DataW H × List MemPlace} (h : DataW.trod enc Tryz.prog w base spare held n 43 cs = some y) : ∃ t, TxnRN w cs t := by
 have hl := trod_len Tryz.underlying43 h
 obtain ⟨n0, y0, h0⟩ := trod_at 0 0 3 1 Tryz.underlying43 h rfl rfl rfl (by kernel_rfl)
 obtain ⟨n1, y1, h1⟩ := trod_at 1 1 3 1 Tryz.underlying43 h rfl rfl rfl (by kernel_rfl)
 obtain ⟨n2, y2, h2⟩ := trod_at 2 2 41 1 Tryz.underlying43 h rfl rfl rfl (by kernel_rfl)
 obtain ⟨s, hs, -, -⟩ := DataW.trod_int Tryz.underlying3 h0
 obtain ⟨f, hf', -, -⟩ := DataW.trod_int Tryz.underlying3 h1
 obtain ⟨v, L, hv, hL⟩ : ∃ v L, _ = [v] ∧ SlR 4 OpRN w v L := open_slR Tryz.underlying41 (by kernel_rfl) (fun _ _ _ h => open_opN h) h2
 rw [show Tryz.prog.cellsOf 43 = 3 by kernel_rfl] at hl
 match cs, hl with
 | [c0, c1, c2], _ =>
  simp at hs hf' hv
  refine ⟨(s, f, L), ⟨v, by rw [hs, hf', hv], SlR.mono hL (fun _ _ _ h => h.1)⟩, fun o ho => ?_⟩
  obtain ⟨cs, h⟩ := slR_all hL o ho
  exact h.2
set_option maxRecDepth 100000 in
theorem open_histN {r : Reach} {b0 : Nat} {v : Value} {d : DataW H} {ps : List MemPlace} (hval : Value.okWide Tryz.prog w r b0 25 v) (hd : DataW.Trod enc Tryz.prog w base spare held 25 v d ps) : ∃ h, HistA w v h ∧ NumH h := by
 obtain ⟨c0, c1, c2, y0, y1, y2, m, rfl, -, -, h0, h1, h2⟩ := open_agg3 Tryz.underlying25 (by kernel_rfl) (show Tryz.prog.cellsOf 25 = 3 by kernel_rfl) hval hd
 obtain ⟨v0, L0, e0, a0⟩ := open_strsA h0
 obtain ⟨v1, L1, e1, a1⟩ := open_strsA h1
 obtain ⟨v2, L2, e2, a2⟩ : ∃ v L, _ = [v] ∧ SlR 3 TxnRN w v L := open_slR Tryz.underlying23 (by kernel_rfl) (fun _ _ _ h => open_txnN h) h2
 simp at e0 e1 e2
 subst e0 e1 e2
 refine ⟨(L0, L1, L2), ⟨c0, c1, c2, rfl, a0, a1, SlR.mono a2 (fun _ _ _ h => h.1)⟩, fun t ht => ?_⟩
 obtain ⟨cs, h⟩ := slR_all a2 t ht
 exact h.2
end
end Go.Proofs.YthgbfaoblnkniaaGreatDoor
