/-
  The walks of layer 2 (name): which of two texts is ahead, in the program and in the reference. No conditions.
-/
import Derived.Test.YtphhgdgamnogpaaDoorNameS
import Derived.Laws.IdiomStrings
namespace Go.Proofs.YtphhgdgamnogpaaDoor
open Go.RowKit Go.Lib

/-- The cells of a text's runes as a slice of rune, its spare ones too. -/
def rowR (w : World) (l : List UInt8) : Array Value :=
  ((runesU l).map fun (n : Nat) => Value.int .i32 (n : Int)).toArray ++ Array.replicate (grownCap w (runesU l).length 0 21 - (runesU l).length) (.int .i32 0)
theorem conv_runes (l : List UInt8) (hs : l.length ≤ 1000000) (w : World) :
    (convert 9 201 (.string (bs l))).run Tryd.prog w = .ok (.slice (some ⟨w.heap.size, 0, none⟩) (runesU l).length (grownCap w (runesU l).length 0 21)) (w.drew.alloc (.cells (rowR w l) 21)) := by
  have h := run_runes_of_string (P := Tryd.prog) w 9 201 21 (bs l) Tryd.underlying9 Tryd.underlying201 Tryd.underlying21
  have e := runesFrom_all l
  have hl := runesU_length l
  have hz : (Conv.runesFrom (bs l) (bs l).size 0 #[]).size = (runesU l).length := by rw [e]; simp
  rw [hz, e] at h
  exact h (by omega)
theorem rowR_cell (w w' : World) (l : List UInt8) (j : Nat) (hj : j < (runesU l).length) : (w'.alloc (.cells (rowR w l) 21)).cell? ⟨w'.heap.size, j, none⟩ = some (.int .i32 (((runesU l).getD j 0 : Nat) : Int)) := by
  rw [cell_of_row _ _ j _ _ (0, 0) (heap_alloc_new w' _)]
  unfold rowR
  rw [Array.getElem?_append_left (by simpa using hj)]
  simp [hj]

set_option maxRecDepth 100000 in
set_option maxHeartbeats 1000000 in
theorem ncompare_any (a b : List UInt8) (ha : a.length ≤ 1000000) (hb : b.length ≤ 1000000) (w : World) :
    Calls Tryd.prog 147 #[.string (bs a), .string (bs b)] w fun e w' => e = .returned (.int .i64 (lexCmp (runesU a) (runesU b))) ∧ Below w.heap.size w w' := by
  have hca := conv_runes a ha
  have hcb := conv_runes b hb
  go_enter Tryd.func147, Tryd.ntmps147
  go_wp2_with fail
  refine (compare_any (runesU a) (runesU b) _ _ _ _ _ ?_ ?_ (by have := runesU_length a; omega)).mono ?_
  · intro j hj
    exact cell_past _ (cell_drew (rowR_cell w w.drew a j hj))
  · intro j hj
    have h := rowR_cell (w.alloc (.cells (rowR w a) 21)).drew (w.alloc (.cells (rowR w a) 21)) b j hj
    rw [show (w.alloc (.cells (rowR w a) 21)).heap.size = w.heap.size + 1 by simp] at h
    exact cell_drew (cell_drew h)
  · rintro e w1 ⟨rfl, rfl⟩
    go_wp2_with fail
    go_ret
    exact ⟨rfl, by (repeat' (first | (with_reducible exact Below.refl _ _) | (with_reducible assumption) | (refine below_next ?_ (by with_reducible assumption)) | (with_reducible refine Below.alloc ?_ ?_ _) | (with_reducible refine Below.drew ?_) | (with_reducible refine below_drewN ?_ _) | omega | (simp; done) | (simp; omega)))⟩

set_option maxRecDepth 100000 in
set_option maxHeartbeats 1000000 in
theorem nless_any (a b : List UInt8) (ha : a.length ≤ 1000000) (hb : b.length ≤ 1000000) (w : World) :
    Calls Tryd.prog 144 #[.string (bs a), .string (bs b)] w fun e w' => e = .returned (.bool (lexLess (runesU a) (runesU b))) ∧ Below w.heap.size w w' := by
  have HC := Lib.hid (ncompare_any a b ha hb)
  have HL := Lib.hid (lexCmp_less (runesU a) (runesU b))
  generalize lexLess (runesU a) (runesU b) = L at *
  generalize lexCmp (runesU a) (runesU b) = C at *
  go_enter Tryd.func144, Tryd.ntmps144
  go_wp2_with (go_at_call 147; refine (HC.out _).mono ?_; rintro e w1 ⟨rfl, hw1⟩)
  go_ret
  exact ⟨by rw [HL.out]; rfl, hw1⟩

theorem lexLess_drop (x y : List Nat) (k : Nat) (hx : k < x.length) (hy : k < y.length) :
    lexLess (x.drop k) (y.drop k) = if x.getD k 0 = y.getD k 0 then lexLess (x.drop (k + 1)) (y.drop (k + 1)) else decide (x.getD k 0 < y.getD k 0) := by
  rw [List.drop_eq_getElem_cons hx, List.drop_eq_getElem_cons hy]
  simp [lexLess, hx, hy]
theorem lexLess_end (x y : List Nat) (k : Nat) (h : x.length ≤ k ∨ y.length ≤ k) (hx : k ≤ x.length) (hy : k ≤ y.length) : lexLess (x.drop k) (y.drop k) = decide (x.length < y.length) := by
  by_cases h1 : x.length ≤ k
  · rw [List.drop_eq_nil_of_le h1]
    by_cases h2 : k < y.length
    · rw [List.drop_eq_getElem_cons h2]
      simp [lexLess]; omega
    · rw [List.drop_eq_nil_of_le (by omega)]
      simp [lexLess]; omega
  · rw [List.drop_eq_nil_of_le (show y.length ≤ k by omega), List.drop_eq_getElem_cons (show k < x.length by omega)]
    simp [lexLess]; omega

set_option maxRecDepth 100000 in
set_option maxHeartbeats 2000000 in
theorem rless_any (a b : List UInt8) (ha : a.length ≤ 1000000) (hb : b.length ≤ 1000000) (w : World) :
    Calls Tryd.prog 125 #[.string (bs a), .string (bs b)] w fun e w' => e = .returned (.bool (lexLess (runesU a) (runesU b))) ∧ Below w.heap.size w w' := by
  have HA := Lib.hid (runes_any a ha)
  have HB := Lib.hid (runes_any b hb)
  have hla := runesU_length a
  have hlb := runesU_length b
  generalize runesU a = x at *
  generalize runesU b = y at *
  obtain ⟨R, hR⟩ : ∃ R, lexLess x y = R := ⟨_, rfl⟩
  rw [hR]
  have HR := Lib.hid hR
  have hlx : x.length ≤ 1000000 := by omega
  have hly : y.length ≤ 1000000 := by omega
  clear hR hla hlb
  go_enter Tryd.func125, Tryd.ntmps125
  go_wp2_with fail
  refine (HA.out _).mono ?_
  rintro e w1 ⟨g, c, rfl, hg, hgs, hgc, hx, hb1⟩
  go_wp2_with fail
  refine (HB.out _).mono ?_
  rintro e w2 ⟨g', c', rfl, hg', hgs', hgc', hy, hb2⟩
  have hx2 : ∀ j, j < x.length → w2.cell? ⟨g, j, none⟩ = some (.int .i64 ((x.getD j 0 : Nat) : Int)) := fun j hj => cell_later hb2 (hx j hj)
  have hbw := below_next hb1 hb2
  have HX := Lib.hid hx2
  have HY := Lib.hid hy
  clear hx hx2 hy hb1 hb2 hg hgs hg' hgs' HA HB
  go_wp2_with fail
  go_loopw [7] (fun i wr => ∃ k : Nat, k ≤ x.length ∧ i = .int .i64 k ∧ k ≤ y.length ∧ lexLess (x.drop k) (y.drop k) = R ∧ ∃ n, wr = w2.drewN n) (fun i _ => x.length - (intOf i).toNat)
  case atStart => exact ⟨0, Nat.zero_le _, rfl, Nat.zero_le _, HR.out, 0, rfl⟩
  case round =>
    obtain ⟨k, hk, rfl, hky, hv, n, rfl⟩ := hrel
    have HV := Lib.hid hv
    clear hv
    by_cases hlt : k < x.length ∧ k < y.length
    · have c1 := HX.out k hlt.1
      have c2 := HY.out k hlt.2
      have h1 := lexLess_drop x y k hlt.1 hlt.2
      rw [HV.out] at h1
      obtain ⟨hk1, hk2⟩ := hlt
      obtain ⟨p, hp⟩ : ∃ p, x.getD k 0 = p := ⟨_, rfl⟩
      obtain ⟨q, hq⟩ : ∃ q, y.getD k 0 = q := ⟨_, rfl⟩
      rw [hp] at h1 c1
      rw [hq] at h1 c2
      clear hp hq
      by_cases h : p = q
      · rw [if_pos h] at h1
        have H1 := Lib.hid h1
        have e1 : ((p : Int) != (q : Int)) = false := by simp [h]
        clear h1 h
        go_wp2_with fail
        go_region
        go_wp2_with fail
        go_roundw
        case rel => exact ⟨k + 1, by omega, by go_num, by omega, H1.out.symm, n + 1, rfl⟩
        case measure => simp [intOf]; omega
      · rw [if_neg h] at h1
        have H1 := Lib.hid h1
        have e1 : ((p : Int) != (q : Int)) = true := by simp; omega
        clear h1 h
        go_wp2_with fail
        go_region
        go_wp2_with fail
        go_region
        go_wp2_with fail
        go_ret
        exact ⟨by rw [H1.out]; first | rfl | simp, (below_drewN hbw n).drew.drew⟩
    · have h1 := lexLess_end x y k (by omega) hk hky
      rw [HV.out] at h1
      have H1 := Lib.hid h1
      clear h1
      by_cases hx1 : k < x.length
      · have hy1 : ¬ k < y.length := fun h => hlt ⟨hx1, h⟩
        clear hlt
        go_wp2_with fail
        go_ret
        refine ⟨?_, below_drewN hbw n⟩
        rw [H1.out]
        simp
      · clear hlt
        go_wp2_with fail
        go_ret
        refine ⟨?_, below_drewN hbw n⟩
        rw [H1.out]
        simp
end Go.Proofs.YtphhgdgamnogpaaDoor
