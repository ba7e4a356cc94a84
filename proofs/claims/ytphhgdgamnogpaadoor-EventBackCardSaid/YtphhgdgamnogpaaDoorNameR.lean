/-
  The walks of layer 2's reference (name) over a text's runes: the list of them, and whether the text is UTF-8. No conditions.
-/
import Derived.Test.YtphhgdgamnogpaaDoorNameZ
import Derived.WalkKit
namespace Go.Proofs.YtphhgdgamnogpaaDoor
open Go.RowKit Go.Lib

theorem runes_step (l : List UInt8) (p : Nat) (done : List Nat) (hp : p < l.length) (h : runesU l = done ++ runesU (l.drop p)) :
    runesU l = (done ++ [(oneAt l p).1]) ++ runesU (l.drop (p + (oneAt l p).2)) ∧ 1 ≤ (oneAt l p).2 ∧ p + (oneAt l p).2 ≤ l.length := by
  have hne : l.drop p ≠ [] := by
    intro e
    have := congrArg List.length e
    simp at this
    omega
  have hw := decodeL_le' (l.drop p) hne
  rw [List.length_drop] at hw
  refine ⟨?_, hw.1, by unfold oneAt; omega⟩
  rw [h, runesU_step _ hne, List.append_assoc, List.drop_drop]
  rfl
/-- Runes as the cells of a slice of int. -/
def ints (r : List Nat) : List Value := r.map fun (n : Nat) => Value.int .i64 (n : Int)
theorem ints_snoc (r : List Nat) (n : Nat) : ints r ++ [.int .i64 (n : Int)] = ints (r ++ [n]) := by simp [ints]
/-- A slice of int that lies in a row of its own: its cells. -/
theorem own_row {w : World} {B : Nat} {e : TypeId} {v : Value} {r : List Nat} (h : w.ownsRow B e 1 v r.length (ints r)) (hn : v ≠ .slice none 0 0) :
    ∃ g cap, v = .slice (some ⟨g, 0, none⟩) r.length cap ∧ B ≤ g ∧ g < w.heap.size ∧ r.length ≤ cap ∧ ∀ j, j < r.length → w.cell? ⟨g, j, none⟩ = some (.int .i64 ((r.getD j 0 : Nat) : Int)) := by
  obtain ⟨-, ⟨h0, -⟩ | ⟨g, cap, cur, hv, hB, hw, hc, -, -, ht⟩⟩ := h
  · exact absurd h0 hn
  · refine ⟨g, cap, hv, hB, (Array.getElem?_eq_some_iff.1 hw).1, hc, fun j hj => ?_⟩
    have h1 := congrArg (fun x : List Value => x[j]?) ht
    simp only [Nat.mul_one, List.getElem?_take, hj, if_true, Array.getElem?_toList] at h1
    rw [cell_of_row w g j _ _ (0, 0) hw, h1]
    simp [ints, hj]
theorem info_int : (Tryd.prog.info? 3).map (fun i => (i.zero, i.size, i.bytes)) = some (some (.int .i64 0), 1, 8) := by kernel_rfl

set_option maxRecDepth 100000 in
set_option maxHeartbeats 1000000 in
theorem runes_any (l : List UInt8) (hs : l.length ≤ 1000000) (w : World) :
    Calls Tryd.prog 114 #[.string (bs l)] w fun e w' => ∃ g cap, e = .returned (.slice (some ⟨g, 0, none⟩) (runesU l).length cap) ∧ w.heap.size ≤ g ∧ g < w'.heap.size ∧ (runesU l).length ≤ cap ∧
      (∀ j, j < (runesU l).length → w'.cell? ⟨g, j, none⟩ = some (.int .i64 (((runesU l).getD j 0 : Nat) : Int))) ∧ Below w.heap.size w w' := by
  obtain ⟨i0, hi, hz0, hz1, hz2⟩ := info_parts info_int
  go_enter Tryd.func114, Tryd.ntmps114
  go_wp2
  go_loopw [3, 4] (fun v i wr => ∃ p : Nat, ∃ done : List Nat, p ≤ l.length ∧ i = .int .i64 p ∧ wr.ownsRow w.heap.size 3 1 v done.length (ints done) ∧ Below w.heap.size w wr ∧ done.length ≤ p ∧ runesU l = done ++ runesU (l.drop p) ∧ v ≠ .slice none 0 0)
    (fun _ i _ => l.length - (intOf i).toNat)
  case atStart =>
    exact ⟨0, [], Nat.zero_le _, rfl, World.ownsRow_made w #[] 0 (Nat.le_refl _) (Nat.zero_le _) rfl, (Below.refl _ _).alloc (Nat.le_refl _) _, Nat.le_refl _, rfl, by simp⟩
  case round =>
    obtain ⟨p, done, hp, rfl, hown, hbw, hdp, hdone, hnn⟩ := hrel
    have HD := Lib.hid hdone
    have HN := Lib.hid hnn
    clear hdone hnn
    by_cases hlt : p < l.length
    · obtain ⟨s1, s2, s3⟩ := runes_step l p done hlt HD.out
      obtain ⟨D, hD⟩ : ∃ D, oneAt l p = D := ⟨_, rfl⟩
      have HC := Lib.hid (one_any l p hlt (by omega))
      rw [hD] at HC s1 s2 s3
      have HS := Lib.hid s1
      clear s1 hD
      go_wp2_with (first
        | (go_at_call 140; refine (HC.out _).mono ?_; rintro e w1 ⟨rfl, rfl⟩)
        | (at_builtin; refine wpList_append_own _ rfl _ _ 60 rfl w.heap.size 3 i0 (.int .i64 0) 1 8 Tryd.underlying60 hi hz0 hz1 hz2 rfl (by decide) _ _ _ rfl (hown.alloc _) ⟨wr.heap.size, 0, none⟩ 1 1 [.int .i64 (D.1 : Nat)] rfl rfl ?c1 ?c2 ?c3 ?c4 ?c5 ?_))
      case c1 =>
        intro j u hj
        match j, hj with
        | 0, hj => simp at hj; subst hj; simp [Addr.add]
      case c2 => intro u hu; simp at hu; subst hu; rfl
      case c3 => unfold maxLen; omega
      case c4 => omega
      case c5 => have := hbw.size; simp; omega
      · intro v' w1 hown' hgrow hnil
        have HV := Lib.hid hnil
        clear hnil
        have HO := Lib.hid hown'
        clear hown'
        have hb1 : Below w.heap.size w w1 := (hbw.alloc (by have := hbw.size; omega) _).grown hgrow (by have := hbw.size; simp; omega) (fun k hk => (hown.lt k hk).1)
        go_wp2
        go_roundw
        case rel =>
          refine ⟨p + D.2, done ++ [D.1], s3, by go_num, ?_, hb1, by simp; omega, HS.out, HV.out⟩
          have := HO.out
          rw [ints_snoc] at this
          simpa using this
        case measure => simp [intOf]; omega
    · have e : l.drop p = [] := List.drop_eq_nil_of_le (by omega)
      have h2 := HD.out
      rw [e, runesU_nil, List.append_nil] at h2
      have H2 := Lib.hid h2
      clear h2 e
      go_wp2
      go_ret
      rw [H2.out]
      obtain ⟨g, cap, rfl, h1, h2, h3, h4⟩ := own_row hown HN.out
      exact ⟨g, cap, rfl, h1, h2, h3, h4, hbw⟩

/-! ### is a text UTF-8? -/
theorem decN_width (n b0 b1 b2 b3 : Nat) : (decodeN n b0 b1 b2 b3).1 = 65533 → (decodeN n b0 b1 b2 b3).2 = 1 ∨ (decodeN n b0 b1 b2 b3).2 = 3 := by
  unfold decodeN
  repeat' split
  all_goals first | (intro _; exact .inl rfl) | (intro _; exact .inr rfl) | (intro h; exfalso; simp only at h; omega)
theorem dec_width (l : List UInt8) (h : (decodeL l).1 = 65533) : (decodeL l).2 = 1 ∨ (decodeL l).2 = 3 := by
  rw [decodeL_N] at h ⊢
  exact decN_width _ _ _ _ _ h
theorem valid_step (l : List UInt8) (p : Nat) (hp : p < l.length) :
    validD (l.drop p) = (if (oneAt l p).1 = 65533 ∧ (oneAt l p).2 ≠ 3 then false else validD (l.drop (p + (oneAt l p).2))) ∧ 1 ≤ (oneAt l p).2 ∧ p + (oneAt l p).2 ≤ l.length := by
  have hne : l.drop p ≠ [] := by
    intro e
    have := congrArg List.length e
    simp at this
    omega
  have hw := decodeL_le' (l.drop p) hne
  have h3 := dec_width (l.drop p)
  rw [List.length_drop] at hw
  refine ⟨?_, hw.1, by unfold oneAt; omega⟩
  rw [validD_step _ hne, List.drop_drop]
  unfold oneAt
  by_cases h : (decodeL (l.drop p)).1 = 65533
  · rcases h3 h with h4 | h4 <;> simp [h, h4]
  · simp [h]

set_option maxRecDepth 100000 in
set_option maxHeartbeats 1000000 in
theorem clean_any (l : List UInt8) (hs : l.length ≤ 1000000) (w : World) :
    Calls Tryd.prog 116 #[.string (bs l)] w fun e w' => e = .returned (.bool (validD l)) ∧ w = w' := by
  obtain ⟨R, hR⟩ : ∃ R, validD l = R := ⟨_, rfl⟩
  rw [hR]
  have HR := Lib.hid hR
  clear hR
  go_enter Tryd.func116, Tryd.ntmps116
  go_wp2
  go_loop [3] (fun i => ∃ p : Nat, p ≤ l.length ∧ i = .int .i64 p ∧ validD (l.drop p) = R) (fun i => l.length - (intOf i).toNat)
  case atStart => exact ⟨0, Nat.zero_le _, rfl, HR.out⟩
  case round =>
    obtain ⟨p, hp, rfl, hv⟩ := hrel
    have HV := Lib.hid hv
    clear hv
    by_cases hlt : p < l.length
    · obtain ⟨s1, s2, s3⟩ := valid_step l p hlt
      obtain ⟨D, hD⟩ : ∃ D, oneAt l p = D := ⟨_, rfl⟩
      have HC := Lib.hid (one_any l p hlt (by omega))
      rw [hD] at HC s1 s2 s3
      rw [HV.out] at s1
      have HS := Lib.hid s1
      clear s1 hD
      rcases (show (D.1 = 65533 ∧ D.2 ≠ 3) ∨ (D.1 = 65533 ∧ D.2 = 3) ∨ D.1 ≠ 65533 by omega) with ⟨d1, d2⟩ | ⟨d1, d2⟩ | d1
      · have H1 := HS.out
        rw [if_pos ⟨d1, d2⟩] at H1
        have H2 := Lib.hid H1
        have e1 : ((D.1 : Int) == 65533) = true := by simp [d1]
        have e2 : ((D.2 : Int) == 3) = false := by simp; omega
        clear H1 d1 d2
        go_wp2_with (go_at_call 140; refine (HC.out _).mono ?_; rintro e w1 ⟨rfl, rfl⟩)
        go_ret
        exact ⟨by rw [H2.out]; rfl, rfl⟩
      · have H1 := HS.out
        rw [if_neg (by omega)] at H1
        have H2 := Lib.hid H1
        have e1 : ((D.1 : Int) == 65533) = true := by simp [d1]
        have e2 : ((D.2 : Int) == 3) = true := by simp [d2]
        clear H1 d1 d2
        go_wp2_with (go_at_call 140; refine (HC.out _).mono ?_; rintro e w1 ⟨rfl, rfl⟩)
        go_round
        case rel => exact ⟨p + D.2, s3, by go_num, H2.out.symm⟩
        case measure => simp [intOf]; omega
      · have H1 := HS.out
        rw [if_neg (fun x => d1 x.1)] at H1
        have H2 := Lib.hid H1
        have e1 : ((D.1 : Int) == 65533) = false := by simp; omega
        clear H1 d1
        go_wp2_with (go_at_call 140; refine (HC.out _).mono ?_; rintro e w1 ⟨rfl, rfl⟩)
        go_round
        case rel => exact ⟨p + D.2, s3, by go_num, H2.out.symm⟩
        case measure => simp [intOf]; omega
    · have e : l.drop p = [] := List.drop_eq_nil_of_le (by omega)
      have h2 := HV.out
      rw [e, validD_nil] at h2
      have H2 := Lib.hid h2
      clear h2 e
      go_wp2
      go_ret
      exact ⟨by rw [H2.out]; rfl, rfl⟩
end Go.Proofs.YtphhgdgamnogpaaDoor
