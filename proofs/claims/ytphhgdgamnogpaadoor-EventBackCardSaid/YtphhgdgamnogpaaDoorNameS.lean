/-
  The walks of layer 2 (name): reserved words, what may stand in a name, the comparison of two runes. No conditions.
-/
import Derived.Test.YtphhgdgamnogpaaDoorNameR
namespace Go.Proofs.YtphhgdgamnogpaaDoor
open Go.RowKit Go.Lib

set_option maxRecDepth 100000 in
set_option maxHeartbeats 1000000 in
theorem reserved_any (l : List UInt8) (w : World) :
    Calls Tryd.prog 109 #[.string (bs l)] w fun e w' => e = .returned (.bool (resL l)) ∧ w = w' := by
  go_enter Tryd.func109, Tryd.ntmps109
  go_wp2
  all_goals
    go_ret
    refine ⟨?_, rfl⟩
    simp_all [resL]

set_option maxRecDepth 100000 in
set_option maxHeartbeats 1000000 in
theorem digit_any (c : Nat) (hc : c ≤ 1114111) (w : World) :
    Calls Tryd.prog 112 #[.int .i32 c] w fun e w' => e = .returned (.bool (dig c)) ∧ w = w' := by
  rcases (show c < 48 ∨ (48 ≤ c ∧ c ≤ 57) ∨ (48 ≤ c ∧ 57 < c) by omega) with h | ⟨h, h'⟩ | ⟨h, h'⟩
  all_goals
    go_enter Tryd.func112, Tryd.ntmps112
    go_wp2
    go_ret
    refine ⟨?_, rfl⟩
    simp [dig, *]
    try omega

set_option maxRecDepth 100000 in
set_option maxHeartbeats 1000000 in
theorem rreserved_any (l : List UInt8) (w : World) :
    Calls Tryd.prog 115 #[.string (bs l)] w fun e w' => e = .returned (.bool (resL l)) ∧ w = w' := by
  go_enter Tryd.func115, Tryd.ntmps115
  go_wp2
  all_goals
    go_ret
    refine ⟨?_, rfl⟩
    simp_all [resL]
    try (rw [Bool.eq_iff_iff]; simp [*])

set_option maxRecDepth 100000 in
set_option maxHeartbeats 1000000 in
theorem part_any (c : Nat) (hc : c ≤ 1114111) (w : World) :
    Calls Tryd.prog 111 #[.int .i32 c] w fun e w' => e = .returned (.bool (part c)) ∧ w = w' := by
  obtain ⟨G, hG⟩ : ∃ G, dig c = G := ⟨_, rfl⟩
  have HC := Lib.hid (digit_any c hc)
  rw [hG] at HC
  have HG := Lib.hid hG
  clear hG hc
  go_enter Tryd.func111, Tryd.ntmps111
  go_wp2_with (go_at_call 112; refine (HC.out _).mono ?_; rintro e w1 ⟨rfl, rfl⟩)
  all_goals
    go_ret
    refine ⟨?_, rfl⟩
    refine congrArg (fun b => Ending.returned (Value.bool b)) ?_
    rw [Bool.eq_iff_iff]
    simp [part, HG.out]
    try first | omega | (cases G <;> simp_all <;> omega) | (cases G <;> simp_all)

set_option maxRecDepth 100000 in
set_option maxHeartbeats 1000000 in
theorem cmp_any (a b : Int) (w : World) :
    Calls Tryd.prog 180 #[.int .i32 a, .int .i32 b] w fun e w' => e = .returned (.int .i64 (if a < b then -1 else if b < a then 1 else 0)) ∧ w = w' := by
  rcases (show a < b ∨ (¬ a < b ∧ b < a) ∨ (¬ a < b ∧ ¬ b < a) by omega) with h | ⟨h, h'⟩ | ⟨h, h'⟩
  all_goals
    go_enter Tryd.func180, Tryd.ntmps180
    go_wp2
    go_ret
    refine ⟨?_, rfl⟩
    simp [*]

theorem lexCmp_drop (x y : List Nat) (k : Nat) (hx : k < x.length) (hy : k < y.length) :
    lexCmp (x.drop k) (y.drop k) = if x.getD k 0 = y.getD k 0 then lexCmp (x.drop (k + 1)) (y.drop (k + 1)) else if x.getD k 0 < y.getD k 0 then -1 else 1 := by
  rw [List.drop_eq_getElem_cons hx, List.drop_eq_getElem_cons hy]
  simp [lexCmp, hx, hy]
theorem lexCmp_short (x y : List Nat) (k : Nat) (hx : k < x.length) (hy : y.length ≤ k) : lexCmp (x.drop k) (y.drop k) = 1 := by
  rw [List.drop_eq_getElem_cons hx, List.drop_eq_nil_of_le hy]
  rfl
theorem lexCmp_end (x y : List Nat) (k : Nat) (hx : x.length ≤ k) : lexCmp (x.drop k) (y.drop k) = if k < y.length then -1 else 0 := by
  rw [List.drop_eq_nil_of_le hx]
  by_cases hy : k < y.length
  · rw [List.drop_eq_getElem_cons hy, if_pos hy]
    rfl
  · rw [List.drop_eq_nil_of_le (by omega), if_neg hy]
    rfl

set_option maxRecDepth 100000 in
set_option maxHeartbeats 2000000 in
theorem compare_any (x y : List Nat) (a b c d : Nat) (w : World) (hx : ∀ j, j < x.length → w.cell? ⟨a, j, none⟩ = some (.int .i32 ((x.getD j 0 : Nat) : Int))) (hy : ∀ j, j < y.length → w.cell? ⟨b, j, none⟩ = some (.int .i32 ((y.getD j 0 : Nat) : Int)))
    (hlx : x.length ≤ 1000000) :
    Calls Tryd.prog 160 #[.slice (some ⟨a, 0, none⟩) x.length c, .slice (some ⟨b, 0, none⟩) y.length d] w fun e w' => e = .returned (.int .i64 (lexCmp x y)) ∧ w = w' := by
  obtain ⟨R, hR⟩ : ∃ R, lexCmp x y = R := ⟨_, rfl⟩
  rw [hR]
  have HR := Lib.hid hR
  have HX := Lib.hid hx
  have HY := Lib.hid hy
  clear hR hx hy
  go_enter Tryd.func160, Tryd.ntmps160
  go_wp2
  go_loop [11] (fun i => ∃ k : Nat, k ≤ x.length ∧ i = .int .i64 k ∧ k ≤ y.length ∧ lexCmp (x.drop k) (y.drop k) = R) (fun i => x.length - (intOf i).toNat)
  case atStart => exact ⟨0, Nat.zero_le _, rfl, Nat.zero_le _, HR.out⟩
  case round =>
    obtain ⟨k, hk, rfl, hky, hv⟩ := hrel
    have HV := Lib.hid hv
    clear hv
    by_cases hlt : k < x.length
    · by_cases hlt2 : k < y.length
      · have h1 := lexCmp_drop x y k hlt hlt2
        rw [HV.out] at h1
        have c1 := HX.out k hlt
        have c2 := HY.out k hlt2
        obtain ⟨p, hp⟩ : ∃ p, x.getD k 0 = p := ⟨_, rfl⟩
        obtain ⟨q, hq⟩ : ∃ q, y.getD k 0 = q := ⟨_, rfl⟩
        rw [hp] at h1 c1
        rw [hq] at h1 c2
        clear hp hq
        have HC := Lib.hid (cmp_any (p : Int) (q : Int))
        rcases (show p < q ∨ q < p ∨ p = q by omega) with h | h | h
        · rw [if_neg (by omega), if_pos h] at h1
          rw [if_pos (by omega)] at HC
          have H1 := Lib.hid h1
          clear h1 h
          go_wp2_with (go_at_call 180; refine (HC.out _).mono ?_; rintro e w1 ⟨rfl, rfl⟩)
          go_ret
          exact ⟨by rw [H1.out]; rfl, rfl⟩
        · rw [if_neg (by omega), if_neg (by omega)] at h1
          rw [if_neg (by omega), if_pos (by omega)] at HC
          have H1 := Lib.hid h1
          clear h1 h
          go_wp2_with (go_at_call 180; refine (HC.out _).mono ?_; rintro e w1 ⟨rfl, rfl⟩)
          go_ret
          exact ⟨by rw [H1.out]; rfl, rfl⟩
        · rw [if_pos h] at h1
          rw [if_neg (by omega), if_neg (by omega)] at HC
          have H1 := Lib.hid h1
          clear h1 h
          go_wp2_with (go_at_call 180; refine (HC.out _).mono ?_; rintro e w1 ⟨rfl, rfl⟩)
          go_round
          case rel => exact ⟨k + 1, by omega, by go_num, by omega, H1.out.symm⟩
          case measure => simp [intOf]; omega
      · have h1 := lexCmp_short x y k hlt (by omega)
        rw [HV.out] at h1
        have H1 := Lib.hid h1
        have c1 := HX.out k hlt
        clear h1
        go_wp2_with fail
        go_ret
        exact ⟨by rw [H1.out]; rfl, rfl⟩
    · have h1 := lexCmp_end x y k (by omega)
      rw [HV.out] at h1
      by_cases hlt2 : k < y.length
      · rw [if_pos hlt2] at h1
        have H1 := Lib.hid h1
        clear h1
        go_wp2_with fail
        go_ret
        exact ⟨by rw [H1.out]; rfl, rfl⟩
      · rw [if_neg hlt2] at h1
        have H1 := Lib.hid h1
        clear h1
        go_wp2_with fail
        go_ret
        exact ⟨by rw [H1.out]; rfl, rfl⟩
end Go.Proofs.YtphhgdgamnogpaaDoor
