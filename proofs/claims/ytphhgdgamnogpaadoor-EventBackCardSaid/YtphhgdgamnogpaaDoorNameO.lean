/-
  Layer 2 (name) in plain words: that runes printed as UTF-8 are read as the same runes, so that turned twice a name is itself; no program in sight. No conditions.
-/
import Derived.Test.YtphhgdgamnogpaaDoorNameP
import Derived.Test.YtphhgdgamnogpaaDoorNameD
import Derived.Lib.RuneBytes
namespace Go.Proofs.YtphhgdgamnogpaaDoor
open Go.Lib

/-- May a number be a rune of a text? -/
def Scalar (c : Nat) : Prop := c < 55296 ∨ (57343 < c ∧ c ≤ 1114111)
theorem decodeN_scalar (n b0 b1 b2 b3 : Nat) : Scalar (decodeN n b0 b1 b2 b3).1 := by
  unfold decodeN Scalar
  repeat' split
  all_goals (simp only; omega)
theorem runesGo_scalar : ∀ (n : Nat) (l : List UInt8), ∀ c ∈ runesGo n l, Scalar c
  | 0, _ => by simp [runesGo]
  | n + 1, l => by
    unfold runesGo
    split
    · simp
    · have := runesGo_scalar n (l.drop (decodeL l).2)
      intro c hc
      rcases List.mem_cons.1 hc with rfl | hc
      · rw [decodeL_N]; exact decodeN_scalar _ _ _ _ _
      · exact this c hc
theorem runesU_scalar (l : List UInt8) : ∀ c ∈ runesU l, Scalar c := runesGo_scalar _ _

theorem u8n (x : Int) (n : Nat) (h : x = n) (hn : n < 256) : (x.toNat.toUInt8).toNat = n := by
  subst h
  simp only [Int.toNat_natCast, UInt8.toNat_ofNat', Nat.toUInt8]
  omega
theorem div64 (c : Nat) (h : c ≤ 2047) (h' : 128 ≤ c) : 194 ≤ 192 + c / 64 ∧ 192 + c / 64 ≤ 223 := by omega
theorem decode_encode (c : Nat) (h : Scalar c) (t : List UInt8) : decodeL (encodeRune (c : Int) ++ t) = (c, (encodeRune (c : Int)).length) := by
  unfold Scalar at h
  by_cases h1 : c ≤ 127
  · have e0 := u8n (c : Int) c rfl (by omega)
    rw [encodeRune, encodeRuneZ_one (by omega) (by omega)]
    simp only [List.map_cons, List.map_nil, List.cons_append, List.nil_append, List.length_cons, List.length_nil]
    rw [decodeL_ascii _ _ (by rw [e0]; omega), e0]
  · by_cases h2 : c ≤ 2047
    · obtain ⟨d, r, hd, hr, hc⟩ : ∃ d r, c / 64 = d ∧ c % 64 = r ∧ c = 64 * d + r := ⟨_, _, rfl, rfl, by omega⟩
      have hr' : r < 64 := by omega
      have e0 := u8n (192 + (c : Int) / 64) (192 + d) (by omega) (by omega)
      have e1 := u8n (128 + (c : Int) % 64) (128 + r) (by omega) (by omega)
      rw [encodeRune, encodeRuneZ_two (by omega) (by omega)]
      simp only [List.map_cons, List.map_nil, List.cons_append, List.nil_append, List.length_cons, List.length_nil]
      rw [decodeL_N]
      simp only [List.getD_cons_zero, List.getD_cons_succ, List.length_cons, e0, e1]
      clear hd hr e0 e1
      rw [dec2 _ _ _ _ _ (by omega) (by omega), if_pos (by omega)]
      refine Prod.ext ?_ rfl
      simp only
      omega
    · by_cases h3 : c ≤ 65535
      · obtain ⟨d, r, s, hd, hr, hs, hc⟩ : ∃ d r s, c / 4096 = d ∧ c / 64 % 64 = r ∧ c % 64 = s ∧ c = 4096 * d + 64 * r + s := ⟨_, _, _, rfl, rfl, rfl, by omega⟩
        have hr' : r < 64 := by omega
        have hs' : s < 64 := by omega
        have e0 := u8n (224 + (c : Int) / 4096) (224 + d) (by omega) (by omega)
        have e1 := u8n (128 + (c : Int) / 64 % 64) (128 + r) (by omega) (by omega)
        have e2 := u8n (128 + (c : Int) % 64) (128 + s) (by omega) (by omega)
        rw [encodeRune, encodeRuneZ_three (by omega)]
        simp only [List.map_cons, List.map_nil, List.cons_append, List.nil_append, List.length_cons, List.length_nil]
        rw [decodeL_N]
        simp only [List.getD_cons_zero, List.getD_cons_succ, List.length_cons, e0, e1, e2]
        clear hd hr hs e0 e1 e2
        have a0 : 224 + d - 224 = d := by omega
        have a1 : 128 + r - 128 = r := by omega
        have a2 : 128 + s - 128 = s := by omega
        rw [dec3 _ _ _ _ _ (by omega) (by omega), a0, a1, a2, if_pos (by omega)]
        refine Prod.ext ?_ rfl
        simp only
        omega
      · obtain ⟨d, q, r, s, hd, hq, hr, hs, hc⟩ : ∃ d q r s, c / 262144 = d ∧ c / 4096 % 64 = q ∧ c / 64 % 64 = r ∧ c % 64 = s ∧ c = 262144 * d + 4096 * q + 64 * r + s := ⟨_, _, _, _, rfl, rfl, rfl, rfl, by omega⟩
        have hq' : q < 64 := by omega
        have hr' : r < 64 := by omega
        have hs' : s < 64 := by omega
        have e0 := u8n (240 + (c : Int) / 262144) (240 + d) (by omega) (by omega)
        have e1 := u8n (128 + (c : Int) / 4096 % 64) (128 + q) (by omega) (by omega)
        have e2 := u8n (128 + (c : Int) / 64 % 64) (128 + r) (by omega) (by omega)
        have e3 := u8n (128 + (c : Int) % 64) (128 + s) (by omega) (by omega)
        rw [encodeRune, encodeRuneZ_four (by omega) (by omega)]
        simp only [List.map_cons, List.map_nil, List.cons_append, List.nil_append, List.length_cons, List.length_nil]
        rw [decodeL_N]
        simp only [List.getD_cons_zero, List.getD_cons_succ, List.length_cons, e0, e1, e2, e3]
        clear hd hq hr hs e0 e1 e2 e3
        have a0 : 240 + d - 240 = d := by omega
        have a1 : 128 + q - 128 = q := by omega
        have a2 : 128 + r - 128 = r := by omega
        have a3 : 128 + s - 128 = s := by omega
        rw [dec4 _ _ _ _ _ (by omega) (by omega), a0, a1, a2, a3, if_pos (by omega)]
        refine Prod.ext ?_ rfl
        simp only
        omega
theorem encodeRune_len (c : Int) : 1 ≤ (encodeRune c).length ∧ (encodeRune c).length ≤ 4 := by
  have := encodeRuneZ_length c
  simpa [encodeRune] using this
theorem runesU_textU : ∀ r : List Nat, (∀ c ∈ r, Scalar c) → runesU (textU r) = r
  | [], _ => rfl
  | c :: r, h => by
    have hd := decode_encode c (h c (List.mem_cons_self ..)) (textU r)
    have ih := runesU_textU r fun x hx => h x (List.mem_cons_of_mem _ hx)
    have hl := (encodeRune_len (c : Int)).1
    have e : textU (c :: r) = encodeRune (c : Int) ++ textU r := rfl
    have hne : encodeRune (c : Int) ++ textU r ≠ [] := fun x => by
      have := congrArg List.length x
      simp only [List.length_append, List.length_nil] at this
      omega
    rw [e, runesU_step _ hne, hd]
    simp only [List.drop_left, ih]
theorem textU_len : ∀ r : List Nat, (textU r).length ≤ 4 * r.length
  | [] => by simp [textU]
  | c :: r => by
    have ih := textU_len r
    have hl := (encodeRune_len (c : Int)).2
    have e : textU (c :: r) = encodeRune (c : Int) ++ textU r := rfl
    rw [e]
    simp only [List.length_append, List.length_cons]
    omega
/-- A text turned. -/
def turnL (l : List UInt8) : List UInt8 := textU (runesU l).reverse
theorem turnL_len (l : List UInt8) : (turnL l).length ≤ 4 * l.length := by
  have h := textU_len (runesU l).reverse
  have h' := runesU_length l
  rw [List.length_reverse] at h
  unfold turnL
  omega
theorem turn_turn (l : List UInt8) (h : validD l = true) : turnL (turnL l) = l := by
  have e : runesU (turnL l) = (runesU l).reverse := runesU_textU _ fun c hc => runesU_scalar l c (List.mem_reverse.1 hc)
  unfold turnL at e
  unfold turnL
  rw [e, List.reverse_reverse]
  exact textU_runes _ l (Nat.le_refl _) h
theorem name_valid (l : List UInt8) (h : nameL l = true) : validD l = true := by
  unfold nameL at h
  simp only [Bool.and_eq_true] at h
  exact h.1.2
theorem order_law (a b : List UInt8) (ha : nameL a = true) (hb : nameL b = true) : decide (a = b) = decide (lexLess (runesU a) (runesU b) = lexLess (runesU b) (runesU a)) := by
  have h := lex_same (runesU a) (runesU b)
  rw [runes_inj a b (name_valid a ha) (name_valid b hb)] at h
  simp only [h]
end Go.Proofs.YtphhgdgamnogpaaDoor
