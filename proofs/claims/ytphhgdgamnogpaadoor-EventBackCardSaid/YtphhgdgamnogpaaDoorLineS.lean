/-
  The walk of layer 1's reference (line): how many bytes the rune at a place has, 0 where there is none. No conditions.
-/
import Derived.Test.YtphhgdgamnogpaaDoorNameW
namespace Go.Proofs.YtphhgdgamnogpaaDoor
open Go.RowKit Go.Lib

/-- How many bytes the rune at a place has; 0: there is none. -/
def szD (d : Nat × Nat) : Nat := if d.1 = 65533 ∧ d.2 = 1 then 0 else d.2
def sizeAt (l : List UInt8) (p : Nat) : Nat := szD (oneAt l p)
theorem szD_bad : szD (65533, 1) = 0 := rfl
theorem szD_good (v n : Nat) (h : n ≠ 1) : szD (v, n) = n := by simp [szD, h]
/-- The reference's way over the bytes behind the first. -/
def contGo (l : List UInt8) (p : Nat) : Nat → Nat → Nat → Option Nat
  | 0, _, v => some v
  | m + 1, k, v => if (l.getD (p + k) 0).toNat < 128 ∨ 191 < (l.getD (p + k) 0).toNat then none else contGo l p m (k + 1) (64 * v + ((l.getD (p + k) 0).toNat - 128))
/-- The reference's last test. -/
def finN (n least : Nat) : Option Nat → Nat
  | none => 0
  | some v => if v < least ∨ 1114111 < v ∨ (55296 ≤ v ∧ v ≤ 57343) then 0 else n
theorem size_two (l : List UInt8) (p : Nat) (hp : p + 1 < l.length) (h : 194 ≤ l[p].toNat) (h' : l[p].toNat ≤ 223) : finN 2 128 (contGo l p 1 1 (l[p].toNat - 192)) = sizeAt l p := by
  have hN := oneAt_N l p
  rw [getD_at l p (by omega), dec2 _ _ _ _ _ h h'] at hN
  unfold sizeAt
  rw [hN]
  simp only [contGo]
  by_cases h1 : (l.getD (p + 1) 0).toNat < 128 ∨ 191 < (l.getD (p + 1) 0).toNat
  · rw [if_pos h1, if_neg (by omega)]
    rfl
  · rw [if_neg h1, if_pos (by omega)]
    simp only [finN]
    rw [if_neg (by omega), szD_good _ _ (by omega)]
theorem size_three (l : List UInt8) (p : Nat) (hp : p + 2 < l.length) (h : 224 ≤ l[p].toNat) (h' : l[p].toNat ≤ 239) : finN 3 2048 (contGo l p 2 1 (l[p].toNat - 224)) = sizeAt l p := by
  have hN := oneAt_N l p
  rw [getD_at l p (by omega), dec3 _ _ _ _ _ h h'] at hN
  unfold sizeAt
  rw [hN]
  simp only [contGo, Nat.reduceAdd]
  by_cases h1 : (l.getD (p + 1) 0).toNat < 128 ∨ 191 < (l.getD (p + 1) 0).toNat
  · rw [if_pos h1, if_neg (by omega)]
    rfl
  · rw [if_neg h1]
    by_cases h2 : (l.getD (p + 2) 0).toNat < 128 ∨ 191 < (l.getD (p + 2) 0).toNat
    · rw [if_pos h2, if_neg (by omega)]
      rfl
    · rw [if_neg h2]
      simp only [finN]
      split
      · rw [if_neg (by omega)]
        rfl
      · rw [if_pos (by omega), szD_good _ _ (by omega)]
theorem size_four (l : List UInt8) (p : Nat) (hp : p + 3 < l.length) (h : 240 ≤ l[p].toNat) (h' : l[p].toNat ≤ 244) : finN 4 65536 (contGo l p 3 1 (l[p].toNat - 240)) = sizeAt l p := by
  have hN := oneAt_N l p
  rw [getD_at l p (by omega), dec4 _ _ _ _ _ h h'] at hN
  unfold sizeAt
  rw [hN]
  simp only [contGo, Nat.reduceAdd]
  by_cases h1 : (l.getD (p + 1) 0).toNat < 128 ∨ 191 < (l.getD (p + 1) 0).toNat
  · rw [if_pos h1, if_neg (by omega)]
    rfl
  · rw [if_neg h1]
    by_cases h2 : (l.getD (p + 2) 0).toNat < 128 ∨ 191 < (l.getD (p + 2) 0).toNat
    · rw [if_pos h2, if_neg (by omega)]
      rfl
    · rw [if_neg h2]
      by_cases h3 : (l.getD (p + 3) 0).toNat < 128 ∨ 191 < (l.getD (p + 3) 0).toNat
      · rw [if_pos h3, if_neg (by omega)]
        rfl
      · rw [if_neg h3]
        simp only [finN]
        split
        · rw [if_neg (by omega)]
          rfl
        · rw [if_pos (by omega), szD_good _ _ (by omega)]
theorem size_short (l : List UInt8) (p : Nat) (hp : p < l.length) (h : (194 ≤ l[p].toNat ∧ l[p].toNat ≤ 223 ∧ ¬ p + 1 < l.length) ∨ (224 ≤ l[p].toNat ∧ l[p].toNat ≤ 239 ∧ ¬ p + 2 < l.length) ∨ (240 ≤ l[p].toNat ∧ l[p].toNat ≤ 244 ∧ ¬ p + 3 < l.length)) : sizeAt l p = 0 := by
  have hN := oneAt_N l p
  rw [getD_at l p hp] at hN
  unfold sizeAt
  rcases h with ⟨h, h', h''⟩ | ⟨h, h', h''⟩ | ⟨h, h', h''⟩
  · rw [hN, dec2 _ _ _ _ _ h h', if_neg (by omega)]
    rfl
  · rw [hN, dec3 _ _ _ _ _ h h', if_neg (by omega)]
    rfl
  · rw [hN, dec4 _ _ _ _ _ h h', if_neg (by omega)]
    rfl
theorem size_ascii (l : List UInt8) (p : Nat) (hp : p < l.length) (h : l[p].toNat < 128) : sizeAt l p = 1 := by
  have hN := oneAt_N l p
  rw [getD_at l p hp] at hN
  unfold sizeAt
  rw [hN]
  simp [decodeN, h, szD]
  omega
theorem size_bad (l : List UInt8) (p : Nat) (hp : p < l.length) (h : (128 ≤ l[p].toNat ∧ l[p].toNat < 194) ∨ 244 < l[p].toNat) : sizeAt l p = 0 := by
  have hN := oneAt_N l p
  rw [getD_at l p hp] at hN
  have hb := l[p].toNat_lt
  unfold sizeAt
  rw [hN, decodeN_bad _ _ _ _ _ (by omega)]
  rfl

/-! ### the walk -/
set_option maxRecDepth 100000 in
set_option maxHeartbeats 1000000 in
theorem size_low (l : List UInt8) (p : Nat) (hp : p < l.length) (h : l[p].toNat < 128) (w : World) :
    Calls Tryd.prog 136 #[.string (bs l), .int .i64 p] w fun e w' => e = .returned (.int .i64 (1 : Nat)) ∧ w = w' := by
  go_enter Tryd.func136, Tryd.ntmps136
  go_wp2
  go_ret
  exact ⟨rfl, rfl⟩

set_option maxRecDepth 100000 in
set_option maxHeartbeats 4000000 in
theorem size_wtwo (l : List UInt8) (p : Nat) (hp : p < l.length) (hs : l.length ≤ 4611686018427387904) (h : 194 ≤ l[p].toNat) (h' : l[p].toNat ≤ 223) (w : World) :
    Calls Tryd.prog 136 #[.string (bs l), .int .i64 p] w fun e w' => e = .returned (.int .i64 (sizeAt l p : Nat)) ∧ w = w' := by
  by_cases hl : p + 1 < l.length
  · have hf := size_two l p hl h h'
    obtain ⟨R, hR⟩ : ∃ R, sizeAt l p = R := ⟨_, rfl⟩
    rw [hR] at hf ⊢
    clear hR
    have HF := Lib.hid hf
    clear hf
    go_enter Tryd.func136, Tryd.ntmps136
    go_wp2
    go_loop [8, 9] (fun v i => ∃ x k : Nat, v = .int .i64 x ∧ i = .int .i64 k ∧ 1 ≤ k ∧ k ≤ 2 ∧ ((k = 1 ∧ x < 64) ∨ (k = 2 ∧ x < 4096) ∨ (k = 3 ∧ x < 262144) ∨ (k = 4 ∧ x < 16777216)) ∧ finN 2 128 (contGo l p (2 - k) k x) = R) (fun _ i => 2 - (intOf i).toNat)
    case atStart => exact ⟨l[p].toNat - 192, 1, by go_num, rfl, by omega, by omega, by omega, HF.out⟩
    case round =>
      obtain ⟨x, k, rfl, rfl, hk1, hk, hx, hr⟩ := hrel
      by_cases hlt : k < 2
      · have e : 2 - k = (2 - (k + 1)) + 1 := by omega
        rw [e] at hr
        simp only [contGo] at hr
        have hg := getD_at l (p + k) (by omega)
        rw [hg] at hr
        have hb := (l[p + k]'(by omega)).toNat_lt
        have hin : p + k < l.length := by omega
        by_cases hc : l[p + k].toNat < 128 ∨ 191 < l[p + k].toNat
        · rw [if_pos hc] at hr
          have HR := Lib.hid hr
          clear hr hg e
          rcases hc with hc | hc
          · go_wp2
            go_ret
            exact ⟨by rw [← HR.out]; rfl, rfl⟩
          · have hc0 : 128 ≤ l[p + k].toNat := by omega
            go_wp2
            go_ret
            exact ⟨by rw [← HR.out]; rfl, rfl⟩
        · rw [if_neg hc] at hr
          have HR := Lib.hid hr
          have hc1 : 128 ≤ l[p + k].toNat := by omega
          have hc2 : l[p + k].toNat ≤ 191 := by omega
          clear hr hg e hc
          go_wp2
          go_round
          case rel => exact ⟨64 * x + (l[p + k].toNat - 128), k + 1, by go_num, by go_num, by omega, by omega, by omega, HR.out⟩
          case measure => simp [intOf]; omega
      · have e : k = 2 := by omega
        subst e
        simp only [Nat.sub_self, contGo, finN] at hr
        by_cases hc : x < 128 ∨ 1114111 < x ∨ (55296 ≤ x ∧ x ≤ 57343)
        · rw [if_pos hc] at hr
          subst hr
          rcases (show (x < 128) ∨ (128 ≤ x ∧ 1114111 < x) ∨ (128 ≤ x ∧ 55296 ≤ x ∧ x ≤ 57343 ∧ x ≤ 1114111) by omega) with c | ⟨c, c'⟩ | ⟨c, c', c'', c3⟩
          all_goals
            clear hc HF hx
            go_wp2
            go_ret
            exact ⟨rfl, rfl⟩
        · rw [if_neg hc] at hr
          subst hr
          rcases (show (128 ≤ x ∧ x < 55296) ∨ (128 ≤ x ∧ 57343 < x ∧ x ≤ 1114111) by omega) with ⟨c, c'⟩ | ⟨c, c', c''⟩
          all_goals
            clear hc HF hx
            go_wp2
            go_ret
            exact ⟨rfl, rfl⟩
  · rw [size_short l p hp (by omega)]
    go_enter Tryd.func136, Tryd.ntmps136
    go_wp2
    go_ret
    exact ⟨rfl, rfl⟩

set_option maxRecDepth 100000 in
set_option maxHeartbeats 4000000 in
theorem size_wthree (l : List UInt8) (p : Nat) (hp : p < l.length) (hs : l.length ≤ 4611686018427387904) (h : 224 ≤ l[p].toNat) (h' : l[p].toNat ≤ 239) (w : World) :
    Calls Tryd.prog 136 #[.string (bs l), .int .i64 p] w fun e w' => e = .returned (.int .i64 (sizeAt l p : Nat)) ∧ w = w' := by
  by_cases hl : p + 2 < l.length
  · have hf := size_three l p hl h h'
    obtain ⟨R, hR⟩ : ∃ R, sizeAt l p = R := ⟨_, rfl⟩
    rw [hR] at hf ⊢
    clear hR
    have HF := Lib.hid hf
    clear hf
    go_enter Tryd.func136, Tryd.ntmps136
    go_wp2
    go_loop [8, 9] (fun v i => ∃ x k : Nat, v = .int .i64 x ∧ i = .int .i64 k ∧ 1 ≤ k ∧ k ≤ 3 ∧ ((k = 1 ∧ x < 64) ∨ (k = 2 ∧ x < 4096) ∨ (k = 3 ∧ x < 262144) ∨ (k = 4 ∧ x < 16777216)) ∧ finN 3 2048 (contGo l p (3 - k) k x) = R) (fun _ i => 3 - (intOf i).toNat)
    case atStart => exact ⟨l[p].toNat - 224, 1, by go_num, rfl, by omega, by omega, by omega, HF.out⟩
    case round =>
      obtain ⟨x, k, rfl, rfl, hk1, hk, hx, hr⟩ := hrel
      by_cases hlt : k < 3
      · have e : 3 - k = (3 - (k + 1)) + 1 := by omega
        rw [e] at hr
        simp only [contGo] at hr
        have hg := getD_at l (p + k) (by omega)
        rw [hg] at hr
        have hb := (l[p + k]'(by omega)).toNat_lt
        have hin : p + k < l.length := by omega
        by_cases hc : l[p + k].toNat < 128 ∨ 191 < l[p + k].toNat
        · rw [if_pos hc] at hr
          have HR := Lib.hid hr
          clear hr hg e
          rcases hc with hc | hc
          · go_wp2
            go_ret
            exact ⟨by rw [← HR.out]; rfl, rfl⟩
          · have hc0 : 128 ≤ l[p + k].toNat := by omega
            go_wp2
            go_ret
            exact ⟨by rw [← HR.out]; rfl, rfl⟩
        · rw [if_neg hc] at hr
          have HR := Lib.hid hr
          have hc1 : 128 ≤ l[p + k].toNat := by omega
          have hc2 : l[p + k].toNat ≤ 191 := by omega
          clear hr hg e hc
          go_wp2
          go_round
          case rel => exact ⟨64 * x + (l[p + k].toNat - 128), k + 1, by go_num, by go_num, by omega, by omega, by omega, HR.out⟩
          case measure => simp [intOf]; omega
      · have e : k = 3 := by omega
        subst e
        simp only [Nat.sub_self, contGo, finN] at hr
        by_cases hc : x < 2048 ∨ 1114111 < x ∨ (55296 ≤ x ∧ x ≤ 57343)
        · rw [if_pos hc] at hr
          subst hr
          rcases (show (x < 2048) ∨ (2048 ≤ x ∧ 1114111 < x) ∨ (2048 ≤ x ∧ 55296 ≤ x ∧ x ≤ 57343 ∧ x ≤ 1114111) by omega) with c | ⟨c, c'⟩ | ⟨c, c', c'', c3⟩
          all_goals
            clear hc HF hx
            go_wp2
            go_ret
            exact ⟨rfl, rfl⟩
        · rw [if_neg hc] at hr
          subst hr
          rcases (show (2048 ≤ x ∧ x < 55296) ∨ (2048 ≤ x ∧ 57343 < x ∧ x ≤ 1114111) by omega) with ⟨c, c'⟩ | ⟨c, c', c''⟩
          all_goals
            clear hc HF hx
            go_wp2
            go_ret
            exact ⟨rfl, rfl⟩
  · rw [size_short l p hp (by omega)]
    go_enter Tryd.func136, Tryd.ntmps136
    go_wp2
    go_ret
    exact ⟨rfl, rfl⟩

set_option maxRecDepth 100000 in
set_option maxHeartbeats 4000000 in
theorem size_wfour (l : List UInt8) (p : Nat) (hp : p < l.length) (hs : l.length ≤ 4611686018427387904) (h : 240 ≤ l[p].toNat) (h' : l[p].toNat ≤ 244) (w : World) :
    Calls Tryd.prog 136 #[.string (bs l), .int .i64 p] w fun e w' => e = .returned (.int .i64 (sizeAt l p : Nat)) ∧ w = w' := by
  by_cases hl : p + 3 < l.length
  · have hf := size_four l p hl h h'
    obtain ⟨R, hR⟩ : ∃ R, sizeAt l p = R := ⟨_, rfl⟩
    rw [hR] at hf ⊢
    clear hR
    have HF := Lib.hid hf
    clear hf
    go_enter Tryd.func136, Tryd.ntmps136
    go_wp2
    simp only [show decide (((l[p].toNat : Nat) : Int) ≤ 244) = true from decide_eq_true (by omega)]
    go_loop [8, 9] (fun v i => ∃ x k : Nat, v = .int .i64 x ∧ i = .int .i64 k ∧ 1 ≤ k ∧ k ≤ 4 ∧ ((k = 1 ∧ x < 64) ∨ (k = 2 ∧ x < 4096) ∨ (k = 3 ∧ x < 262144) ∨ (k = 4 ∧ x < 16777216)) ∧ finN 4 65536 (contGo l p (4 - k) k x) = R) (fun _ i => 4 - (intOf i).toNat)
    case atStart => exact ⟨l[p].toNat - 240, 1, by go_num, rfl, by omega, by omega, by omega, HF.out⟩
    case round =>
      obtain ⟨x, k, rfl, rfl, hk1, hk, hx, hr⟩ := hrel
      by_cases hlt : k < 4
      · have e : 4 - k = (4 - (k + 1)) + 1 := by omega
        rw [e] at hr
        simp only [contGo] at hr
        have hg := getD_at l (p + k) (by omega)
        rw [hg] at hr
        have hb := (l[p + k]'(by omega)).toNat_lt
        have hin : p + k < l.length := by omega
        by_cases hc : l[p + k].toNat < 128 ∨ 191 < l[p + k].toNat
        · rw [if_pos hc] at hr
          have HR := Lib.hid hr
          clear hr hg e
          rcases hc with hc | hc
          · go_wp2
            go_ret
            exact ⟨by rw [← HR.out]; rfl, rfl⟩
          · have hc0 : 128 ≤ l[p + k].toNat := by omega
            go_wp2
            go_ret
            exact ⟨by rw [← HR.out]; rfl, rfl⟩
        · rw [if_neg hc] at hr
          have HR := Lib.hid hr
          have hc1 : 128 ≤ l[p + k].toNat := by omega
          have hc2 : l[p + k].toNat ≤ 191 := by omega
          clear hr hg e hc
          go_wp2
          go_round
          case rel => exact ⟨64 * x + (l[p + k].toNat - 128), k + 1, by go_num, by go_num, by omega, by omega, by omega, HR.out⟩
          case measure => simp [intOf]; omega
      · have e : k = 4 := by omega
        subst e
        simp only [Nat.sub_self, contGo, finN] at hr
        by_cases hc : x < 65536 ∨ 1114111 < x ∨ (55296 ≤ x ∧ x ≤ 57343)
        · rw [if_pos hc] at hr
          subst hr
          rcases (show (x < 65536) ∨ (65536 ≤ x ∧ 1114111 < x) by omega) with c | ⟨c, c'⟩
          all_goals
            clear hc HF hx
            go_wp2
            go_ret
            exact ⟨rfl, rfl⟩
        · rw [if_neg hc] at hr
          subst hr
          obtain ⟨c, c', c''⟩ : 65536 ≤ x ∧ 57343 < x ∧ x ≤ 1114111 := by omega
          all_goals
            clear hc HF hx
            go_wp2
            go_ret
            exact ⟨rfl, rfl⟩
  · rw [size_short l p hp (by omega)]
    go_enter Tryd.func136, Tryd.ntmps136
    go_wp2
    go_ret
    exact ⟨rfl, rfl⟩

set_option maxRecDepth 100000 in
set_option maxHeartbeats 1000000 in
theorem size_wbad (l : List UInt8) (p : Nat) (hp : p < l.length) (h : (128 ≤ l[p].toNat ∧ l[p].toNat < 194) ∨ 244 < l[p].toNat) (w : World) :
    Calls Tryd.prog 136 #[.string (bs l), .int .i64 p] w fun e w' => e = .returned (.int .i64 (0 : Nat)) ∧ w = w' := by
  have hb := l[p].toNat_lt
  rcases h with ⟨h, h'⟩ | h
  all_goals
    go_enter Tryd.func136, Tryd.ntmps136
    go_wp2
    go_ret
    exact ⟨rfl, rfl⟩

theorem size_any (l : List UInt8) (p : Nat) (hp : p < l.length) (hs : l.length ≤ 4611686018427387904) (w : World) :
    Calls Tryd.prog 136 #[.string (bs l), .int .i64 p] w fun e w' => e = .returned (.int .i64 (sizeAt l p : Nat)) ∧ w = w' := by
  by_cases h0 : l[p].toNat < 128
  · rw [size_ascii l p hp h0]
    exact size_low l p hp h0 w
  · by_cases h1 : l[p].toNat < 194
    · rw [size_bad l p hp (.inl ⟨by omega, h1⟩)]
      exact size_wbad l p hp (.inl ⟨by omega, h1⟩) w
    · by_cases h2 : l[p].toNat ≤ 223
      · exact size_wtwo l p hp hs (by omega) h2 w
      · by_cases h3 : l[p].toNat ≤ 239
        · exact size_wthree l p hp hs (by omega) h3 w
        · by_cases h4 : l[p].toNat ≤ 244
          · exact size_wfour l p hp hs (by omega) h4 w
          · rw [size_bad l p hp (.inr (by omega))]
            exact size_wbad l p hp (.inr (by omega)) w
end Go.Proofs.YtphhgdgamnogpaaDoor
