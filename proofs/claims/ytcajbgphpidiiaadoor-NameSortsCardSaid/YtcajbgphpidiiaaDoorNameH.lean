/-
  The walks of layer 2's reference (name): runes printed as UTF-8, and a text turned. No conditions.
-/
import Derived.Test.YtcajbgphpidiiaaDoorNameR
import Derived.Test.YtcajbgphpidiiaaDoorNameO
import Derived.Test.YtcajbgphpidiiaaDoorTexts
namespace Go.Proofs.YtcajbgphpidiiaaDoor
open Go.RowKit Go.Lib

/-- A slice's cells hold these numbers. -/
def HasNats (w : World) (p : Option Addr) (r : List Nat) : Prop := ∀ j, j < r.length → ∃ g, p = some ⟨g, 0, none⟩ ∧ w.cell? ⟨g, j, none⟩ = some (.int .i64 ((r.getD j 0 : Nat) : Int))
theorem HasNats.below {w w' : World} {p : Option Addr} {r : List Nat} (h : HasNats w p r) (hb : Below w.heap.size w w') : HasNats w' p r := fun j hj => by
  obtain ⟨g, hp, hc⟩ := h j hj
  exact ⟨g, hp, cell_later hb hc⟩
theorem own_nats {w : World} {B : Nat} {e : TypeId} {v : Value} {r : List Nat} (h : w.ownsRow B e 1 v r.length (ints r)) : ∃ p cap, v = .slice p r.length cap ∧ HasNats w p r := by
  obtain ⟨-, ⟨h0, hn⟩ | ⟨g, cap, cur, hv, -, hw, -, -, -, ht⟩⟩ := h
  · have : r = [] := List.eq_nil_of_length_eq_zero hn
    subst this h0
    exact ⟨none, 0, rfl, fun j hj => absurd hj (Nat.not_lt_zero j)⟩
  · refine ⟨_, cap, hv, fun j hj => ⟨g, rfl, ?_⟩⟩
    have h1 := congrArg (fun x : List Value => x[j]?) ht
    simp only [Nat.mul_one, List.getElem?_take, hj, if_true, Array.getElem?_toList] at h1
    rw [cell_of_row w g j _ _ (0, 0) hw, h1]
    simp [ints, hj]
/-- Bytes as cells. -/
def bytesV (l : List UInt8) : List Value := l.map fun b => .int .u8 (b.toNat : Int)
theorem info_byte : (Tryd.prog.info? 5).map (fun i => (i.zero, i.size, i.bytes)) = some (some (.int .u8 0), 1, 1) := by kernel_rfl
theorem textU_next (r : List Nat) (k : Nat) (hk : k < r.length) : textU (r.take (k + 1)) = textU (r.take k) ++ encodeRune ((r.getD k 0 : Nat) : Int) := by
  have e : r.take (k + 1) = r.take k ++ [r.getD k 0] := by
    rw [List.take_add_one]
    simp [hk]
  rw [e]
  unfold textU
  rw [List.flatMap_append]
  simp

theorem back_bytes (w : World) (g : Nat) (l : List UInt8) (n cap : Nat) (hn : l.length = n) (h : ∀ j, j < l.length → w.cell? ⟨g, j, none⟩ = some (.int .u8 ((l.getD j 0).toNat : Int))) :
    (convert 78 9 (.slice (some ⟨g, 0, none⟩) n cap)).run Tryd.prog w = .ok (.string (bs l)) w := by
  subst hn
  refine run_convert_bytes_back w _ _ 5 _ cap l Tryd.underlying78 Tryd.underlying5 Tryd.underlying9 (fun q hq => ?_)
  have := h q hq
  rw [Addr.add_lit, Nat.zero_add, this]
  simp [hq]
theorem bytesV_app (a b : List UInt8) : bytesV (a ++ b) = bytesV a ++ bytesV b := by simp [bytesV]
theorem bytesV_enc (c : Int) : bytesV (encodeRune c) = runeCells c := byteCells_encodeRune c
theorem news_cells (w : World) (l : List Value) (e : TypeId) : ∀ (j : Nat) (u : Value), l[j]? = some u → (w.alloc (.cells l.toArray e)).cell? ((⟨w.heap.size, 0, none⟩ : Addr).add j) = some u := by
  intro j u hj
  rw [Addr.add_lit, Nat.zero_add, cell_of_row _ _ j _ _ (0, 0) (heap_alloc_new w _)]
  simpa using hj
set_option maxRecDepth 4000000 in
set_option maxHeartbeats 4000000 in
theorem rtext_any (w : World) (p : Option Addr) (cap : Nat) (r : List Nat) (hr : HasNats w p r) (hs : ∀ c ∈ r, Scalar c) (hl : r.length ≤ 1000000) :
    Calls Tryd.prog 64 #[.slice p r.length cap] w fun e w' => e = .returned (.string (bs (textU r))) ∧ Below w.heap.size w w' := by
  have HR := Lib.hid hr
  have HS := Lib.hid hs
  clear hr hs
  obtain ⟨i0, hi, hz0, hz1, hz2⟩ := info_parts info_byte
  go_enter Tryd.func64, Tryd.ntmps64
  go_wp2_with fail
  go_loopw [3, 4] (fun b i wr => ∃ k : Nat, k ≤ r.length ∧ i = .int .i64 k ∧ wr.ownsRow w.heap.size 5 1 b (textU (r.take k)).length (bytesV (textU (r.take k))) ∧ b ≠ .slice none 0 0 ∧ Below w.heap.size w wr) (fun _ i _ => r.length - (RowKit.intOf i).toNat)
  case atStart => exact ⟨0, Nat.zero_le _, rfl, World.ownsRow_made w #[] 0 (Nat.le_refl _) (Nat.zero_le _) rfl, by simp, (Below.refl _ _).alloc (Nat.le_refl _) _⟩
  case round =>
    obtain ⟨k, hk, rfl, hown, hnn, hbw⟩ := hrel
    have hlen := textU_len (r.take k)
    rw [List.length_take] at hlen
    by_cases hlt : k < r.length
    · obtain ⟨g, rfl, hc⟩ := HR.out k hlt
      have hc' := cell_later hbw hc
      have htn := textU_next r k hlt
      have hsc := HS.out (r.getD k 0) (by
        have : r.getD k 0 = r[k] := by simp [hlt]
        rw [this]
        exact List.getElem_mem hlt)
      generalize r.getD k 0 = c at *
      have HTN := Lib.hid htn
      have HSC := Lib.hid hsc
      have hcle : c ≤ 1114111 := by unfold Scalar at hsc; omega
      clear hc htn hsc
      by_cases c1 : c < 128
      · have hs2 := HSC.out
        have hn : runeCells (c : Int) = [.int .u8 (c : Int)] := by rw [runeCells, encodeRuneZ_one (by omega) (by omega)]; rfl
        have hl1 : (encodeRune (c : Int)).length = 1 := by
          have := congrArg List.length hn
          rw [runeCells_length] at this
          exact this
        have HN := Lib.hid hn
        clear hn hs2
        go_wp2_with (at_builtin; refine wpList_append_own _ rfl _ _ 78 rfl w.heap.size 5 i0 (.int .u8 0) 1 1 Tryd.underlying78 hi hz0 hz1 hz2 rfl (by decide) _ _ _ rfl (hown.alloc _) ⟨wr.heap.size, 0, none⟩ 1 1 [.int .u8 (c : Int)] rfl rfl (news_cells _ _ _) (by intro u hu; simp at hu; rcases hu with rfl; rfl) (by unfold maxLen; omega) (by omega) (by have := hbw.size; simp; omega) ?_)
        intro v' w4 hown4 hgrow hnil
        have hb4 : Below w.heap.size w w4 := (hbw.alloc hbw.size _).grown hgrow (by have := hbw.size; simp; omega) (fun k hk => (hown.lt k hk).1)
        have HO : RowKit.Hid (w4.ownsRow w.heap.size 5 1 v' (textU (r.take (k + 1))).length (bytesV (textU (r.take (k + 1))))) := Lib.hid (by
          rw [HTN.out, bytesV_app, bytesV_enc, HN.out, List.length_append, hl1]
          exact hown4)
        have HNN : RowKit.Hid (v' ≠ .slice none 0 0) := Lib.hid (fun h => by simp_all)
        clear hown4 hgrow hnil hown hbw hnn
        go_wp2_with fail
        go_roundw
        case rel => exact ⟨k + 1, by omega, by go_num, HO.out, HNN.out, hb4⟩
        case measure => simp [RowKit.intOf]; omega
      · by_cases c2 : c < 2048
        · have hs2 := HSC.out
          have hn : runeCells (c : Int) = [.int .u8 (192 + (c : Int) / 64), .int .u8 (128 + (c : Int) % 64)] := by rw [runeCells, encodeRuneZ_two (by omega) (by omega)]; rfl
          have hl1 : (encodeRune (c : Int)).length = 2 := by
            have := congrArg List.length hn
            rw [runeCells_length] at this
            exact this
          have HN := Lib.hid hn
          clear hn hs2
          go_wp2_with (at_builtin; refine wpList_append_own _ rfl _ _ 78 rfl w.heap.size 5 i0 (.int .u8 0) 1 1 Tryd.underlying78 hi hz0 hz1 hz2 rfl (by decide) _ _ _ rfl (hown.alloc _) ⟨wr.heap.size, 0, none⟩ 2 2 [.int .u8 (192 + (c : Int) / 64), .int .u8 (128 + (c : Int) % 64)] rfl rfl (news_cells _ _ _) (by intro u hu; simp at hu; rcases hu with rfl | rfl <;> rfl) (by unfold maxLen; omega) (by omega) (by have := hbw.size; simp; omega) ?_)
          intro v' w4 hown4 hgrow hnil
          have hb4 : Below w.heap.size w w4 := (hbw.alloc hbw.size _).grown hgrow (by have := hbw.size; simp; omega) (fun k hk => (hown.lt k hk).1)
          have HO : RowKit.Hid (w4.ownsRow w.heap.size 5 1 v' (textU (r.take (k + 1))).length (bytesV (textU (r.take (k + 1))))) := Lib.hid (by
            rw [HTN.out, bytesV_app, bytesV_enc, HN.out, List.length_append, hl1]
            exact hown4)
          have HNN : RowKit.Hid (v' ≠ .slice none 0 0) := Lib.hid (fun h => by simp_all)
          clear hown4 hgrow hnil hown hbw hnn
          go_wp2_with fail
          go_roundw
          case rel => exact ⟨k + 1, by omega, by go_num, HO.out, HNN.out, hb4⟩
          case measure => simp [RowKit.intOf]; omega
        · by_cases c3 : c < 65536
          · have hs2 := HSC.out
            have hn : runeCells (c : Int) = [.int .u8 (224 + (c : Int) / 4096), .int .u8 (128 + (c : Int) / 64 % 64), .int .u8 (128 + (c : Int) % 64)] := by rw [runeCells, encodeRuneZ_three (by unfold Scalar at hs2; omega)]; rfl
            have hl1 : (encodeRune (c : Int)).length = 3 := by
              have := congrArg List.length hn
              rw [runeCells_length] at this
              exact this
            have HN := Lib.hid hn
            clear hn hs2
            go_wp2_with (at_builtin; refine wpList_append_own _ rfl _ _ 78 rfl w.heap.size 5 i0 (.int .u8 0) 1 1 Tryd.underlying78 hi hz0 hz1 hz2 rfl (by decide) _ _ _ rfl (hown.alloc _) ⟨wr.heap.size, 0, none⟩ 3 3 [.int .u8 (224 + (c : Int) / 4096), .int .u8 (128 + (c : Int) / 64 % 64), .int .u8 (128 + (c : Int) % 64)] rfl rfl (news_cells _ _ _) (by intro u hu; simp at hu; rcases hu with rfl | rfl | rfl <;> rfl) (by unfold maxLen; omega) (by omega) (by have := hbw.size; simp; omega) ?_)
            intro v' w4 hown4 hgrow hnil
            have hb4 : Below w.heap.size w w4 := (hbw.alloc hbw.size _).grown hgrow (by have := hbw.size; simp; omega) (fun k hk => (hown.lt k hk).1)
            have HO : RowKit.Hid (w4.ownsRow w.heap.size 5 1 v' (textU (r.take (k + 1))).length (bytesV (textU (r.take (k + 1))))) := Lib.hid (by
              rw [HTN.out, bytesV_app, bytesV_enc, HN.out, List.length_append, hl1]
              exact hown4)
            have HNN : RowKit.Hid (v' ≠ .slice none 0 0) := Lib.hid (fun h => by simp_all)
            clear hown4 hgrow hnil hown hbw hnn
            go_wp2_with fail
            go_roundw
            case rel => exact ⟨k + 1, by omega, by go_num, HO.out, HNN.out, hb4⟩
            case measure => simp [RowKit.intOf]; omega
          · have hs2 := HSC.out
            have hn : runeCells (c : Int) = [.int .u8 (240 + (c : Int) / 262144), .int .u8 (128 + (c : Int) / 4096 % 64), .int .u8 (128 + (c : Int) / 64 % 64), .int .u8 (128 + (c : Int) % 64)] := by rw [runeCells, encodeRuneZ_four (by omega) (by omega)]; rfl
            have hl1 : (encodeRune (c : Int)).length = 4 := by
              have := congrArg List.length hn
              rw [runeCells_length] at this
              exact this
            have HN := Lib.hid hn
            clear hn hs2
            go_wp2_with (at_builtin; refine wpList_append_own _ rfl _ _ 78 rfl w.heap.size 5 i0 (.int .u8 0) 1 1 Tryd.underlying78 hi hz0 hz1 hz2 rfl (by decide) _ _ _ rfl (hown.alloc _) ⟨wr.heap.size, 0, none⟩ 4 4 [.int .u8 (240 + (c : Int) / 262144), .int .u8 (128 + (c : Int) / 4096 % 64), .int .u8 (128 + (c : Int) / 64 % 64), .int .u8 (128 + (c : Int) % 64)] rfl rfl (news_cells _ _ _) (by intro u hu; simp at hu; rcases hu with rfl | rfl | rfl | rfl <;> rfl) (by unfold maxLen; omega) (by omega) (by have := hbw.size; simp; omega) ?_)
            intro v' w4 hown4 hgrow hnil
            have hb4 : Below w.heap.size w w4 := (hbw.alloc hbw.size _).grown hgrow (by have := hbw.size; simp; omega) (fun k hk => (hown.lt k hk).1)
            have HO : RowKit.Hid (w4.ownsRow w.heap.size 5 1 v' (textU (r.take (k + 1))).length (bytesV (textU (r.take (k + 1))))) := Lib.hid (by
              rw [HTN.out, bytesV_app, bytesV_enc, HN.out, List.length_append, hl1]
              exact hown4)
            have HNN : RowKit.Hid (v' ≠ .slice none 0 0) := Lib.hid (fun h => by simp_all)
            clear hown4 hgrow hnil hown hbw hnn
            go_wp2_with fail
            go_roundw
            case rel => exact ⟨k + 1, by omega, by go_num, HO.out, HNN.out, hb4⟩
            case measure => simp [RowKit.intOf]; omega
    · have hke : k = r.length := by omega
      subst hke
      rw [List.take_length] at hown
      obtain ⟨-, ⟨h0, -⟩ | ⟨g, cap2, cur, rfl, hgB, hcur, -, -, -, ht⟩⟩ := id hown
      · exact absurd h0 hnn
      have hcell : ∀ j, j < (textU r).length → wr.cell? ⟨g, j, none⟩ = some (.int .u8 (((textU r).getD j 0).toNat : Int)) := by
        intro j hj
        have h1 := congrArg (fun x : List Value => x[j]?) ht
        simp only [Nat.mul_one, List.getElem?_take, hj, if_true, Array.getElem?_toList] at h1
        rw [cell_of_row wr g j _ _ (0, 0) hcur, h1]
        simp [bytesV, hj]
      have hcv := back_bytes wr g (textU r) _ cap2 rfl hcell
      clear hcell ht hcur hown hnn
      go_wp2_with fail
      go_ret
      exact ⟨rfl, hbw⟩
end Go.Proofs.YtcajbgphpidiiaaDoor
