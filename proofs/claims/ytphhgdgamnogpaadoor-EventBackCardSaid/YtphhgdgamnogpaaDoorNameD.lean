/-
  What the decoder finds at a lead byte of two, three and four bytes, as the reference of layer 2 (name) reckons it; no program in sight. No conditions.
-/
import Derived.Test.YtphhgdgamnogpaaDoorBase
import Derived.Lib.DecodeN
namespace Go.Proofs.YtphhgdgamnogpaaDoor
open Go.Lib

theorem cont_iff (b : Nat) : (b / 64 = 2) = (128 ≤ b ∧ b ≤ 191) := propext ⟨fun h => ⟨by omega, by omega⟩, fun h => by omega⟩
theorem cont_mod (b : Nat) (h : 128 ≤ b ∧ b ≤ 191) : b % 64 = b - 128 := by omega

theorem dec2 (n b0 b1 b2 b3 : Nat) (h : 194 ≤ b0) (h' : b0 ≤ 223) : decodeN n b0 b1 b2 b3 = if 1 < n ∧ 128 ≤ b1 ∧ b1 ≤ 191 then ((b0 - 192) * 64 + (b1 - 128), 2) else (65533, 1) := by
  have e0 : ¬ b0 < 128 := by omega
  have e1 : b0 / 32 = 6 := by omega
  have e2 : ¬ b0 / 16 = 14 := by omega
  have e3 : ¬ b0 / 8 = 30 := by omega
  have e4 : b0 % 32 = b0 - 192 := by omega
  unfold decodeN
  rw [if_neg e0]
  simp only [e1, e2, e3, e4, cont_iff, true_and, false_and, if_false]
  by_cases hc : 1 < n ∧ 128 ≤ b1 ∧ b1 ≤ 191
  · rw [if_pos hc, if_pos hc, cont_mod b1 hc.2, if_pos (by omega)]
  · rw [if_neg hc, if_neg hc]
theorem dec3 (n b0 b1 b2 b3 : Nat) (h : 224 ≤ b0) (h' : b0 ≤ 239) :
    decodeN n b0 b1 b2 b3 = if (2 < n ∧ 128 ≤ b1 ∧ b1 ≤ 191 ∧ 128 ≤ b2 ∧ b2 ≤ 191) ∧ 2048 ≤ (b0 - 224) * 4096 + (b1 - 128) * 64 + (b2 - 128) ∧ ¬ (55296 ≤ (b0 - 224) * 4096 + (b1 - 128) * 64 + (b2 - 128) ∧ (b0 - 224) * 4096 + (b1 - 128) * 64 + (b2 - 128) ≤ 57343) then
      ((b0 - 224) * 4096 + (b1 - 128) * 64 + (b2 - 128), 3) else (65533, 1) := by
  have e0 : ¬ b0 < 128 := by omega
  have e1 : ¬ b0 / 32 = 6 := by omega
  have e2 : b0 / 16 = 14 := by omega
  have e3 : ¬ b0 / 8 = 30 := by omega
  have e4 : b0 % 16 = b0 - 224 := by omega
  unfold decodeN
  rw [if_neg e0]
  simp only [e1, e2, e3, e4, cont_iff, true_and, false_and, if_false]
  by_cases hc : 2 < n ∧ 128 ≤ b1 ∧ b1 ≤ 191 ∧ 128 ≤ b2 ∧ b2 ≤ 191
  · have hc1 : (1 < n ∧ 128 ≤ b1 ∧ b1 ≤ 191) ∧ 2 < n ∧ 128 ≤ b2 ∧ b2 ≤ 191 := by omega
    rw [if_pos hc1, cont_mod b1 hc1.1.2, cont_mod b2 hc1.2.2]
    obtain ⟨v, hv⟩ : ∃ v, (b0 - 224) * 4096 + (b1 - 128) * 64 + (b2 - 128) = v := ⟨_, rfl⟩
    have hle : v ≤ 65535 := by omega
    rw [hv]
    by_cases hd : 2048 ≤ v ∧ ¬ (55296 ≤ v ∧ v ≤ 57343)
    · rw [if_pos (by omega), if_pos ⟨hc, hd⟩]
    · rw [if_neg (by omega), if_neg (fun x => hd x.2)]
  · rw [if_neg (fun x => hc (by omega)), if_neg (fun x => hc x.1)]
theorem dec4 (n b0 b1 b2 b3 : Nat) (h : 240 ≤ b0) (h' : b0 ≤ 244) :
    decodeN n b0 b1 b2 b3 = if (3 < n ∧ 128 ≤ b1 ∧ b1 ≤ 191 ∧ 128 ≤ b2 ∧ b2 ≤ 191 ∧ 128 ≤ b3 ∧ b3 ≤ 191) ∧ 65536 ≤ (b0 - 240) * 262144 + (b1 - 128) * 4096 + (b2 - 128) * 64 + (b3 - 128) ∧ (b0 - 240) * 262144 + (b1 - 128) * 4096 + (b2 - 128) * 64 + (b3 - 128) ≤ 1114111 then
      ((b0 - 240) * 262144 + (b1 - 128) * 4096 + (b2 - 128) * 64 + (b3 - 128), 4) else (65533, 1) := by
  have e0 : ¬ b0 < 128 := by omega
  have e1 : ¬ b0 / 32 = 6 := by omega
  have e2 : ¬ b0 / 16 = 14 := by omega
  have e3 : b0 / 8 = 30 := by omega
  have e4 : b0 % 8 = b0 - 240 := by omega
  unfold decodeN
  rw [if_neg e0]
  simp only [e1, e2, e3, e4, cont_iff, true_and, false_and, if_false]
  by_cases hc : 3 < n ∧ 128 ≤ b1 ∧ b1 ≤ 191 ∧ 128 ≤ b2 ∧ b2 ≤ 191 ∧ 128 ≤ b3 ∧ b3 ≤ 191
  · have hc1 : (1 < n ∧ 128 ≤ b1 ∧ b1 ≤ 191) ∧ (2 < n ∧ 128 ≤ b2 ∧ b2 ≤ 191) ∧ 3 < n ∧ 128 ≤ b3 ∧ b3 ≤ 191 := by omega
    rw [if_pos hc1, cont_mod b1 hc1.1.2, cont_mod b2 hc1.2.1.2, cont_mod b3 hc1.2.2.2]
    obtain ⟨v, hv⟩ : ∃ v, (b0 - 240) * 262144 + (b1 - 128) * 4096 + (b2 - 128) * 64 + (b3 - 128) = v := ⟨_, rfl⟩
    rw [hv]
    by_cases hd : 65536 ≤ v ∧ v ≤ 1114111
    · rw [if_pos (by omega), if_pos ⟨hc, hd⟩]
    · rw [if_neg (by omega), if_neg (fun x => hd x.2)]
  · rw [if_neg (fun x => hc (by omega)), if_neg (fun x => hc x.1)]
end Go.Proofs.YtphhgdgamnogpaaDoor
